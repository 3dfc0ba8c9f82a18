/- Several texts in one. No condition. -/
import Derived.Test.YtbgjlpdeoljmiaaZJ
import Derived.Maps.RangeRun
namespace Go.Proofs.Ytbgjlpdeoljmiaa
set_option linter.unusedSimpArgs false
set_option linter.unusedVariables false
open Go.RowKit
section
variable {P:Program} {C:Cfg} {w w':World} {Y Y' X:Nat→Prop} {φ:Phi} {H:Hp}
variable {nid:Nat} {ρ:Operand→Value} {ra:Operand→AV} {d:Option Tmp} {ty:TypeId} {pos:String} {af:Array Edge} {g:Option (Nat×Bool)}
theorem sameNow_eq{kd:TypeDesc}{t:Nat}{x y:Value}{b:Bool}(h:Instr.sameNow kd x y=some b)(hu:P.underlying t=some kd){m:Nat} : (Op.equalIn (m+1) t x y).run P w = .ok b w:=by
 unfold Instr.sameNow at h
 split at h
 ·split at h
  ·rename_i hk;simp only [Option.some.injEq] at h; subst h;simp [Op.equalIn,run_underlying hu,hk]
  ·cases h
 ·simp only [Option.some.injEq] at h; subst h;simp [Op.equalIn,run_underlying hu]
 ·simp only [Option.some.injEq] at h; subst h;simp [Op.equalIn,run_underlying hu]
 ·cases h
def FR(w:World)(Y:Nat→Prop):Option (Nat×PV)→Option (Nat×Value)→Prop
 | none,none=>True
 | some (i,x),some (j,u)=>i=j∧PR w Y x u
 | _,_=>False
theorem mfind_ok(hC:Qad P C){kt:Nat}{k:PV}{v:Value}(hk:PR w Y k v){kd:TypeDesc}(hu:P.underlying kt=some kd):∀(kvs:List (PV×PV))(i b:Nat)(es:List MapEntry)(r:Option (Nat×PV)),mfind C.ty kt k kvs i=some r→MR w Y b kvs es →
  ∃r',FR w Y r r'∧(Instr.findAsking kt v es i).run P w = .ok r' w∧(Instr.findNow kd v es i=none∨Instr.findNow kd v es i=some r')
 | [],i,b,es,r,h,hm=>by
  simp only [mfind,Option.some.injEq] at h; subst h;simp only [MR] at hm; subst hm;exact ⟨none,trivial,by simp [Instr.findAsking],.inr (by simp [Instr.findNow])⟩
 | (q,x)::kvs,i,b,es,r,h,hm=>by
  simp only [MR] at hm;obtain ⟨e,es',rfl,_,hq,hx,hm⟩:=hm;simp only [mfind] at h;cases heq:eqV C.ty kt k q with
  | none=>simp [heq] at h
  | some c =>
   have he:=(eqV_ok hC heq hk hq).1;have ha:(Instr.findAsking kt v (e::es') i).run P w=if c then .ok (some (i,e.val)) w else (Instr.findAsking kt v es' (i+1)).run P w:=by
    have he':(Op.equal kt v e.key).run P w = .ok c w:=he;cases c<;>simp [Instr.findAsking,he']
   have hn:∀c',Instr.sameNow kd v e.key=some c'→c'=c:=fun c' hc'=>by
    have:=sameNow_eq (P:=P) (w:=w) (m:=9999) hc' hu;rw [he] at this; cases this; rfl
   cases c with
   | true =>
    simp only [heq,Option.some.injEq] at h; subst h;refine ⟨some (i,e.val),⟨rfl,hx⟩,by rw [ha]; rfl,?_⟩;simp only [Instr.findNow];cases hs:Instr.sameNow kd v e.key with
    | none=>exact .inl rfl
    | some c'=>rw [hn c' hs]; exact .inr rfl
   | false =>
    simp only [heq] at h;obtain ⟨r',h1,h2,h3⟩:=mfind_ok hC hk hu kvs (i+1) (b+1) es' r h hm;refine ⟨r',h1,by rw [ha]; exact h2,?_⟩;simp only [Instr.findNow];cases hs:Instr.sameNow kd v e.key with
    | none=>exact .inl rfl
    | some c'=>rw [hn c' hs]; exact h3
theorem findKey_ok(hC:Qad P C){kt:Nat}{kd:TypeDesc}(hu:P.underlying kt=some kd){k:PV}{v:Value}(hk:PR w Y k v){kvs:List (PV×PV)}{es:List MapEntry}{r:Option (Nat×PV)}(h:mfind C.ty kt k kvs 0=some r)(hm:MR w Y 0 kvs es) :
  ∃r',FR w Y r r'∧(Instr.findKey kt v es).run P w = .ok r' w:=by
 obtain ⟨r',h1,h2,h3⟩:=mfind_ok hC hk hu kvs 0 0 es r h hm;refine ⟨r',h1,?_⟩;unfold Instr.findKey;simp only [Sem.run_bind,run_underlying hu,Result.andThen_ok];rcases h3 with h3 | h3<;>rw [h3]
 ·exact h2
 ·rfl
theorem keyF_ok(hC:Qad P C){rec:Nat→List PV→Bool}{em:Bool}{k:Nat}{x:List PV}{vs:List Value}(hx:PRL w Y x vs)
  (ih:∀t x vs,rec t x=true→PRL w Y x vs→∃ti,C.ty t=some ti∧(ti.k.row=false→vs.length=1)∧(Instr.checkKey em k t (vAt ti.k.row vs)).run P w = .ok () w) :
  ∀(fs:List (Nat×Nat))(gs:List Field),Qbe fs gs=true→keyF C.ty rec fs x=true →
   ∀ f ∈ gs, f.name ≠ "_" ∧ ∃ u, (part f.type vs.toArray f.offset).run P w = .ok u w ∧ (Instr.checkKey em k f.type u).run P w = .ok () w
 | [],[],_,_,f,hf=>by cases hf
 | (t,o)::fs,g::gs,hf,h,f,hm=>by
  simp only [Qbe,Bool.and_eq_true,Nat.beq_eq] at hf;obtain ⟨⟨⟨ht,ho⟩,hn⟩,hf⟩:=hf;simp only [keyF,Bool.and_eq_true] at h;obtain ⟨h,hr⟩:=h;rcases List.mem_cons.1 hm with rfl | hm
  ·cases hti:C.ty t with
   | none=>simp [hti] at h
   | some ti =>
    simp only [hti,Bool.and_eq_true,Bool.or_eq_true,Nat.blt_eq] at h;obtain ⟨⟨h1,h2⟩,h3⟩:=h;have h1:=ble_t h1;obtain ⟨ti',e,_,h4⟩:=ih t _ _ h3 ((hx.drop o).take ti.size);rw [hti] at e; cases e;subst ht; subst ho;have hl:=hx.length;exact ⟨by simpa using hn,_,run_part (hC.ty _ ti hti) (by omega) (fun hr=>by rcases h2 with h2 | h2; (rw [hr] at h2; cases h2); exact h2),h4⟩
  ·exact keyF_ok hC hx ih fs gs hf hr f hm
 | [],_::_,hf,_,_,_=>by simp [Qbe] at hf
 | _::_,[],hf,_,_,_=>by simp [Qbe] at hf
theorem keyP_ok(hC:Qad P C)(em:Bool):∀(d t:Nat)(x:List PV)(vs:List Value),keyP C.ty d t x=true→PRL w Y x vs →
  ∃ti,C.ty t=some ti∧(ti.k.row=false→vs.length=1)∧∀k,d≤k→(Instr.checkKey em k t (vAt ti.k.row vs)).run P w = .ok () w
 | 0,t,x,vs,h,_=>by simp [keyP] at h
 | d+1,t,x,vs,h,hx=>by
  simp only [keyP] at h;cases hti:C.ty t with
  | none=>simp [hti] at h
  | some ti =>
   simp only [hti] at h;have hT:=hC.ty t ti hti;refine ⟨ti,rfl,?_⟩
   split at h
   ·rename_i k k2 n hk;obtain ⟨v,rfl,_,_⟩:=prl_one hx;refine ⟨fun _=>rfl,fun m hm=>?_⟩;obtain ⟨m,rfl⟩:∃m',m=m'+1:=⟨m-1,by omega⟩;simp [Instr.checkKey,run_underlying (und_int hT hk)]
   ·rename_i b hk;obtain ⟨v,rfl,_,_⟩:=prl_one hx;refine ⟨fun _=>rfl,fun m hm=>?_⟩;obtain ⟨m,rfl⟩:∃m',m=m'+1:=⟨m-1,by omega⟩;simp [Instr.checkKey,run_underlying (und_bool hT hk)]
   ·rename_i s hk;obtain ⟨v,rfl,_,_⟩:=prl_one hx;refine ⟨fun _=>rfl,fun m hm=>?_⟩;obtain ⟨m,rfl⟩:∃m',m=m'+1:=⟨m-1,by omega⟩;simp [Instr.checkKey,run_underlying (und_str hT hk)]
   ·rename_i fs hk;rw [Bool.and_eq_true] at h;obtain ⟨gs,hu,hf⟩:=Qcq hT hk;refine ⟨(fun hr=>by rw [hk] at hr; cases hr),fun m hm=>?_⟩;obtain ⟨m,rfl⟩:∃m',m=m'+1:=⟨m-1,by omega⟩;rw [show ti.k.row=true from by rw [hk]; rfl];simp only [vAt,if_true,Instr.checkKey,Sem.run_bind,run_underlying hu,Result.andThen_ok];have each:=keyF_ok (em:=em) (k:=m) hC hx (fun t x vs hr hx=>by
     obtain ⟨ti,h1,h2,h3⟩:=keyP_ok hC em d t x vs hr hx;exact ⟨ti,h1,h2,h3 m (by omega)⟩) fs gs.toList hf h.2
    rw [←Array.forIn_toList];generalize gs.toList=L at each
    induction L with
    | nil=>simp
    | cons f L ihL =>
     obtain ⟨hn,u,h1,h2⟩:=each f (by simp);simp only [List.forIn_cons,Sem.run_bind,hn,ne_eq,not_false_eq_true,if_true,Result.andThen_ok,h1,h2,Sem.run_pure];exact ihL fun y hy=>each y (by simp [hy])
   ·cases h
theorem keyV_ok(hC:Qad P C){t:Nat}{p:PV}{v:Value}(h:keyV C.ty t p=true)(hp:PR w Y p v)(em:Bool):(Instr.checkKey em 10000 t v).run P w = .ok () w:=by
 unfold keyV at h;cases hti:C.ty t with
 | none=>simp [hti] at h
 | some ti =>
  simp only [hti] at h;cases hr:ti.k.row with
  | true =>
   simp only [hr,cond_true] at h
   split at h
   ·simp only [PR] at hp;obtain ⟨vs,rfl,hvs⟩:=hp;obtain ⟨ti',h1,_,h3⟩:=keyP_ok hC em 20 t _ vs h hvs;rw [hti] at h1; cases h1;have:=h3 10000 (by omega);rw [hr] at this;simpa [vAt] using this
   ·cases h
  | false =>
   simp only [hr,cond_false,Bool.and_eq_true] at h;obtain ⟨ti',h1,_,h3⟩:=keyP_ok hC em 20 t _ [v] h.2 (pr_cells h.1 hp);rw [hti] at h1; cases h1;have:=h3 10000 (by omega);rw [hr] at this;simpa [vAt] using this
theorem eqC1_same{p q:PV}{v u:Value}(h:eqC1 p q=true)(hp:PR w Y p v)(hq:PR w Y q u):v=u∧∀n,Instr.sameBits n v v=true:=by
 cases p<;>cases q<;>first | (simp [eqC1] at h; done) | skip
 ·simp only [eqC1,Bool.and_eq_true,decide_eq_true_eq] at h;simp only [PR] at hp hq; subst hp; subst hq;rw [kindEq_eq h.1,h.2]; exact ⟨rfl,fun n=>by cases n<;>simp [Instr.sameBits]⟩
 ·simp only [eqC1,beq_iff_eq] at h;simp only [PR] at hp hq; subst hp; subst hq;rw [h]; exact ⟨rfl,fun n=>by cases n<;>simp [Instr.sameBits]⟩
 ·simp only [eqC1,decide_eq_true_eq] at h;simp only [PR] at hp hq; subst hp; subst hq;rw [bytes_eq h]; refine ⟨rfl,fun n=>?_⟩;cases n<;>simp [Instr.sameBits,beq_toListBytes]
theorem eqCL_same:∀{x y:List PV} {vs us:List Value},eqCL x y=true→PRL w Y x vs→PRL w Y y us→vs=us∧∀n,(vs.zip vs).all (fun (a,b)=>Instr.sameBits n a b)=true
 | [],[],vs,us,_,hx,hy=>by
  simp only [PRL] at hx hy; subst hx; subst hy; simp
 | p::x,q::y,vs,us,h,hx,hy=>by
  simp only [eqCL,Bool.and_eq_true] at h;simp only [PRL] at hx hy;obtain ⟨v,r,rfl,_,h1,h2⟩:=hx;obtain ⟨u,s,rfl,_,k1,k2⟩:=hy;obtain ⟨e,hb⟩:=eqC1_same h.1 h1 k1;obtain ⟨e2,hb2⟩:=eqCL_same h.2 h2 k2;refine ⟨by rw [e,e2],fun n=>?_⟩;simp only [List.zip_cons_cons,List.all_cons,hb n,Bool.true_and];exact hb2 n
 | [],_::_,_,_,h,_,_=>by simp [eqCL] at h
 | _::_,[],_,_,h,_,_=>by simp [eqCL] at h
theorem eqC_same{p q:PV}{v u:Value}(h:eqC p q=true)(hp:PR w Y p v)(hq:PR w Y q u):v=u∧Instr.sameBits 10000 v v=true:=by
 unfold eqC at h
 split at h
 ·simp only [PR] at hp hq;obtain ⟨vs,rfl,hvs⟩:=hp;obtain ⟨us,rfl,hus⟩:=hq;obtain ⟨e,hb⟩:=eqCL_same h hvs hus;refine ⟨by rw [e],?_⟩;have:=hb 9999;simp only [Instr.sameBits];simpa using this
 ·cases h
 ·cases h
 ·obtain ⟨e,hb⟩:=eqC1_same h hp hq;exact ⟨e,hb _⟩
theorem mapTy_ok(hC:Qad P C){t k e:Nat}(h:mapTy C t=some (k,e)):P.underlying t=some (.map k e):=by
 unfold mapTy at h
 split at h
 ·rename_i ti hti
  split at h
  ·rename_i k' e' hk;simp only [Option.some.injEq,Prod.mk.injEq] at h; obtain ⟨rfl,rfl⟩:=h;exact und_map (hC.ty t ti hti) hk
  ·cases h
 ·cases h
theorem zeroOf_ok(hC:Qad P C){e:Nat}{z:PV}(h:zeroOf C e=some z):∃u,(∀w:World,(zeroValue e).run P w = .ok u w)∧∀(w:World)(Y:Nat→Prop),PR w Y z u:=by
 unfold zeroOf at h;cases hti:C.ty e with
 | none=>simp [hti] at h
 | some ti =>
  simp only [hti] at h;obtain ⟨i,u,hi,hz,h1,h2⟩:=tyOK_zero (hC.ty e ti hti);refine ⟨u,fun w=>by simp [zeroValue,typeInfo,hi,hz],fun w Y=>?_⟩;cases hr:ti.k.row with
  | true =>
   simp only [hr,cond_true,Option.some.injEq] at h; subst h;obtain ⟨vs,rfl,hp⟩:=h1 hr;simp only [PR]; exact ⟨vs,rfl,hp w Y⟩
  | false =>
   simp only [hr,cond_false] at h
   split at h
   ·rename_i z' hz';simp only [Option.some.injEq] at h; subst h;have:=h2 hr w Y;rw [hz'] at this;obtain ⟨v,e,_,hp⟩:=prl_one this;cases e; exact hp
   ·cases h
theorem und_of_keyV(hC:Qad P C){kt:Nat}{k:PV}(h:keyV C.ty kt k=true):∃kd,P.underlying kt=some kd:=by
 unfold keyV at h
 split at h
 ·cases h
 ·rename_i ti hti;obtain ⟨u,hu,_⟩:=Qci (hC.ty kt ti hti);exact ⟨u,hu⟩
theorem mapOf_ok(hH:HR X φ H w){x:AV}{kvs:List (PV×PV)}{v:Value}(h:mapOf H x=some kvs)(hx:VR w (YOf X φ) φ x v) :
  (v = .map none∧kvs=[])∨∃b es,v = .map (some b)∧w.heap[b]?=some (.map es es.size)∧MR w (YOf X φ) 0 kvs es.toList:=by
 unfold mapOf at h
 split at h
 ·simp only [Option.some.injEq] at h; subst h;simp only [VR,PR] at hx;exact .inl ⟨hx,rfl⟩
 ·split at h
  ·rename_i kvs' ho;simp only [Option.some.injEq] at h; subst h;obtain ⟨z,l,hl,hO⟩:=hH.ob _ _ ho;simp only [VR] at hx;obtain ⟨b,hA,hv⟩:=hx.2.2 _ l hl;simp only [OR] at hO;obtain ⟨_,b',es,hA',hg,hm⟩:=hO;rw [hA] at hA'; cases hA';exact .inr ⟨b,es,hv,hg,hm⟩
  ·cases h
 ·cases h
theorem g_lookup(hC:Qad P C)(hH:HR X φ H w){t:Nat}{x k:Operand}{ok:Bool}{v:AV}(h:Qcp C H t (ra x) (ra k) ok=some v)(hx:VR w (YOf X φ) φ (ra x) (ρ x))(hk:VR w (YOf X φ) φ (ra k) (ρ k)) :
  ∃u,(execOp ρ ⟨d,.lookup t x k ok,ty,pos,af,g⟩).run P w = .ok (.value u) w∧VR w (YOf X φ) φ v u:=by
 unfold Qcp at h
 split at h
 ·rename_i kt e kp kvs hmt hkp hkv;rw [hkp] at hk;simp only [VR] at hk;cases hkk:keyV C.ty kt kp with
  | false=>simp [hkk] at h
  | true =>
   simp only [hkk,cond_true] at h;have hu:=mapTy_ok hC hmt;obtain ⟨kd,hkd⟩:=und_of_keyV hC hkk;have hck:=fun em=>keyV_ok (w:=w) hC hkk hk em;have main:∀es:Array MapEntry,MR w (YOf X φ) 0 kvs es.toList→((ρ x = .map none∧es = #[])∨∃b,ρ x = .map (some b)∧(getObj b).run P w = .ok (.map es es.size) w) →
     ∃u,(Instr.lookup t (ρ x) (ρ k) ok).run P w = .ok u w∧VR w (YOf X φ) φ v u:=by
    intro es hm hes;cases hf:mfind C.ty kt kp kvs 0 with
    | none=>simp [hf] at h
    | some r =>
     obtain ⟨r',hr,hfk⟩:=findKey_ok hC hkd hk hf hm;simp only [hf] at h;cases r with
     | none =>
      cases r' with
      | some _=>exact hr.elim
      | none =>
       simp only at h;cases hz:zeroOf C e with
       | none=>simp [hz] at h
       | some z =>
        simp only [hz,Option.some.injEq] at h; subst h;obtain ⟨u,h1,h2⟩:=zeroOf_ok hC hz;refine ⟨if ok then .tuple #[u,.bool false] else u,?_,?_⟩
        ·have h1:=h1 w;rcases hes with ⟨hv,rfl⟩|⟨b,hv,hgo⟩
         ·have hfk':(Instr.findKey kt (ρ k) []).run P w = .ok none w:=hfk;have hck':=hck true;simp [Instr.lookup,hv,run_underlying hu,hck',hfk',h1]
         ·simp [Instr.lookup,hv,run_underlying hu,hgo,hck,hfk,h1]
        ·cases ok
         ·simpa only [cond_false,VR,Bool.false_eq_true,if_false] using h2 w _
         ·simp only [cond_true,VR,VRT,if_true];exact ⟨_,rfl,u,_,rfl,h2 w _,.bool false,[],rfl,by simp only [PR],rfl⟩
     | some p =>
      cases r' with
      | none=>exact hr.elim
      | some p' =>
       obtain ⟨i,x'⟩:=p;obtain ⟨j,u⟩:=p';simp only [Option.some.injEq] at h; subst h;refine ⟨if ok then .tuple #[u,.bool true] else u,?_,?_⟩
       ·rcases hes with ⟨hv,rfl⟩|⟨b,hv,hgo⟩
        ·have hfk':(Instr.findKey kt (ρ k) []).run P w = .ok (some (j,u)) w:=hfk;have hck':=hck true;simp [Instr.lookup,hv,run_underlying hu,hck',hfk']
        ·simp [Instr.lookup,hv,run_underlying hu,hgo,hck,hfk]
       ·cases ok
        ·simpa only [cond_false,VR,Bool.false_eq_true,if_false] using hr.2
        ·simp only [cond_true,VR,VRT,if_true];exact ⟨_,rfl,u,_,rfl,hr.2,.bool true,[],rfl,by simp only [PR],rfl⟩
   have fin:∃u,(Instr.lookup t (ρ x) (ρ k) ok).run P w = .ok u w∧VR w (YOf X φ) φ v u:=by
    rcases mapOf_ok hH hkv hx with ⟨hv,rfl⟩|⟨b,es,hv,hg,hm⟩
    ·exact main #[] (by simp [MR]) (.inl ⟨hv,rfl⟩)
    ·exact main es hm (.inr ⟨b,hv,by simp [getObj,Sem.run,hg]⟩)
   obtain ⟨u,h1,h2⟩:=fin;exact ⟨u,by simp [execOp,h1],h2⟩
 ·cases h
theorem MR.append:∀{kvs:List (PV×PV)} {es:List MapEntry} {i:Nat} {k x:PV} {e:MapEntry},MR w Y i kvs es→e.born=i+kvs.length→PR w Y k e.key→PR w Y x e.val→MR w Y i (kvs++[(k,x)]) (es++[e])
 | [],es,i,k,x,e,h,hb,hk,hx=>by
  simp only [MR] at h; subst h;simp only [List.nil_append,MR];exact ⟨e,[],rfl,by simpa using hb,hk,hx,rfl⟩
 | (q,y)::kvs,es,i,k,x,e,h,hb,hk,hx=>by
  simp only [MR] at h;obtain ⟨e0,es',rfl,h1,h2,h3,h4⟩:=h;simp only [List.cons_append,MR];exact ⟨e0,_,rfl,h1,h2,h3,MR.append h4 (by simp at hb; omega) hk hx⟩
theorem MR.set:∀{kvs:List (PV×PV)} {es:List MapEntry} {i j:Nat} {k x:PV} {f:MapEntry→MapEntry},MR w Y i kvs es→(∀e,es[j]?=some e→(f e).born=e.born∧PR w Y k (f e).key∧PR w Y x (f e).val)→MR w Y i (kvs.set j (k,x)) (es.modify j f)
 | [],es,i,j,k,x,f,h,_=>by
  simp only [MR] at h; subst h;simp [MR]
 | (q,y)::kvs,es,i,0,k,x,f,h,hf=>by
  simp only [MR] at h;obtain ⟨e0,es',rfl,h1,h2,h3,h4⟩:=h;obtain ⟨k1,k2,k3⟩:=hf e0 (by simp);simp only [List.set_cons_zero,List.modify_zero_cons,MR];exact ⟨f e0,es',rfl,k1.trans h1,k2,k3,h4⟩
 | (q,y)::kvs,es,i,j+1,k,x,f,h,hf=>by
  simp only [MR] at h;obtain ⟨e0,es',rfl,h1,h2,h3,h4⟩:=h;simp only [List.set_cons_succ,List.modify_succ_cons,MR];exact ⟨e0,_,rfl,h1,h2,h3,MR.set h4 (fun e he=>hf e (by simpa using he))⟩
theorem MR.at:∀{kvs:List (PV×PV)} {es:List MapEntry} {i j:Nat} {k x:PV},MR w Y i kvs es→kvs[j]?=some (k,x)→∃e,es[j]?=some e∧e.born=i+j∧PR w Y k e.key∧PR w Y x e.val
 | [],es,i,j,k,x,_,h=>by simp at h
 | (q,y)::kvs,es,i,0,k,x,h,hj=>by
  simp only [MR] at h;obtain ⟨e0,es',rfl,h1,h2,h3,h4⟩:=h;simp at hj; obtain ⟨rfl,rfl⟩:=hj;exact ⟨e0,by simp,h1,h2,h3⟩
 | (q,y)::kvs,es,i,j+1,k,x,h,hj=>by
  simp only [MR] at h;obtain ⟨e0,es',rfl,h1,h2,h3,h4⟩:=h;obtain ⟨e,k1,k2,k3⟩:=MR.at h4 (by simpa using hj);exact ⟨e,by simpa using k1,by omega,k3⟩
theorem map_ob(hH:HR X φ H w){o:Nat}{kvs:List (PV×PV)}(ho:hget H o=some (.map kvs)):∃l b es,φ o = .at false l∧l.A=some (b,0)∧w.heap[b]?=some (.map es es.size)∧MR w (YOf X φ) 0 kvs es.toList:=by
 obtain ⟨z,l,hl,hO⟩:=hH.ob _ _ ho;simp only [OR] at hO;obtain ⟨rfl,b,es,hA,hg,hm⟩:=hO;exact ⟨l,b,es,hl,hA,hg,hm⟩
theorem set_far{b:Nat}{ob:Obj}(_:b<w.heap.size):∀k,k≠b→({ w with heap:=w.heap.setIfInBounds b ob } : World).heap[k]?=w.heap[k]?:=fun k hk=>by
 simp [Array.getElem?_setIfInBounds_ne (Ne.symm hk)]
theorem good_put{r:Result Next}{o b p:Nat}{l:Loc}{x:Ob}{v:AV}{v':Value}(hH:HR X φ H w)(hl:φ o = .at false l)(hA:l.A=some (b,p))(hr:r = .ok (.value v') w')(hos:w'.os=w.os)(htape:w'.tape=w.tape)(hout:w'.output=w.output∧w.drawn≤w'.drawn)(hsize:w'.heap.size=w.heap.size)
  (hg:∀k,k≠b→w'.heap[k]?=w.heap[k]?) (hO:Ev φ w φ w'→OR w' (YOf X φ) φ false l x) (hv:Ev φ w φ w'→VR w' (YOf X φ) φ v v'):Good nid H X φ w v (hset H o (some x)) r:=by
 have ev:=Ev.write (w:=w) (w':=w') hl hA hos htape hout hsize hg;exact ⟨_,v',w',φ,hr,.inl rfl,hv ev,hH.write hl hA hos htape hout hsize hg (hO ev),ev,by rw [Qv]; exact Nat.le_refl _,fun _ _ h=>h⟩
theorem mset_ok(hC:Qad P C){kt e t:Nat}(ht:P.underlying t=some (.map kt e)){k x:PV}{kv xv:Value}{kvs kvs':List (PV×PV)}{b:Nat}{es:Array MapEntry}(hk:PR w Y k kv)(hx:PR w Y x xv)
  (h:mset C.ty kt k x kvs=some kvs') (hg:w.heap[b]?=some (.map es es.size)) (hm:MR w Y 0 kvs es.toList) :
  ∃es':Array MapEntry,(Instr.mapUpdate t (.map (some b)) kv xv).run P w = .ok () { w with heap:=w.heap.setIfInBounds b (.map es' es'.size) }∧MR w Y 0 kvs' es'.toList:=by
 unfold mset at h;cases hkk:keyV C.ty kt k with
 | false=>simp [hkk] at h
 | true =>
  simp only [hkk,cond_true] at h;obtain ⟨kd,hkd⟩:=und_of_keyV hC hkk;have hck:=keyV_ok (w:=w) hC hkk hk false;cases hf:mfind C.ty kt k kvs 0 with
  | none=>simp [hf] at h
  | some r =>
   obtain ⟨r',hr,hfk⟩:=findKey_ok hC hkd hk hf hm;have hget:(getObj b).run P w = .ok (.map es es.size) w:=by simp [getObj,Sem.run,hg]
   have hset:∀ob,(setObj b ob).run P w = .ok () { w with heap:=w.heap.setIfInBounds b ob }:=fun ob=>by simp [setObj,Sem.run,hg]
   simp only [hf] at h;cases r with
   | none =>
    cases r' with
    | some _=>exact hr.elim
    | none =>
     simp only [Option.some.injEq] at h; subst h;refine ⟨es.push { key:=kv,val:=xv,born:=es.size },?_,?_⟩
     ·simp only [Instr.mapUpdate,Sem.run_bind,run_underlying ht,Result.andThen_ok,hget,hck,hfk,hset,Array.size_push]
     ·have hl:=hm.length;simp only [Array.toList_push];exact hm.append (by simp at hl ⊢; omega) hk hx
   | some p =>
    cases r' with
    | none=>exact hr.elim
    | some p' =>
     obtain ⟨i,y⟩:=p;obtain ⟨j,u⟩:=p';obtain ⟨rfl,_⟩:=hr;simp only at h;cases hi:kvs[i]? with
     | none=>simp [hi] at h
     | some q =>
      obtain ⟨q,z⟩:=q;simp only [hi] at h;cases hq:eqC k q with
      | false=>simp [hq] at h
      | true =>
       simp only [hq,cond_true,Option.some.injEq] at h; subst h;obtain ⟨e0,h1,_,h3,_⟩:=hm.at hi;obtain ⟨hkq,hbits⟩:=eqC_same hq hk h3;have h1':es[i]?=some e0:=by simpa using h1
       refine ⟨es.modify i fun e=>{ e with key:=kv,val:=xv },?_,?_⟩
       ·have hst:(Instr.keyThatStays (((es[i]?).map (·.key)).getD kv) kv).run P w = .ok kv w:=by
         rw [h1'];simp only [Option.map_some,Option.getD_some,Instr.keyThatStays,←hkq,hbits,if_true,Sem.run_pure]
        simp only [Instr.mapUpdate,Sem.run_bind,run_underlying ht,Result.andThen_ok,hget,hck,hfk,hst,hset,Array.size_modify]
       ·rw [Array.toList_modify];exact hm.set fun e he=>⟨rfl,by rw [hkq]; exact h3,hx⟩
theorem g_mapUpdate(hC:Qad P C)(hH:HR X φ H w){t:Nat}{x k y:Operand}{op:Op}(hop:op = .mapUpdate t x k y∨op = .insert t x k y){H1:Hp}(h:Qbr C H t (ra x) (ra k) (ra y)=some H1)(hρ:∀x,VR w (YOf X φ) φ (ra x) (ρ x)) :
  Good nid H X φ w (.tup []) H1 ((execOp ρ ⟨d,op,ty,pos,af,g⟩).run P w):=by
 have hx:=hρ x;have hk:=hρ k;unfold Qbr at h
 split at h
 ·rename_i kt e o kp p H2 hmt hxo hkp hpl;obtain ⟨φ1,hH1,ev1,kp1,hps⟩:=plain_ok hH hpl (hρ y);refine Good.pre ev1 kp1 ?_
  split at h
  ·rename_i kvs ho
   split at h
   ·rename_i kvs' hms;simp only [Option.some.injEq] at h; subst h;have hu:=mapTy_ok hC hmt;obtain ⟨l,b,es,hl,hA,hg,hm⟩:=map_ob hH1 ho;rw [hxo] at hx; rw [hkp] at hk;have hx1:=VR.stay ev1 X _ _ hx;have hk1:=VR.stay ev1 X _ _ hk;simp only [VR] at hx1 hk1;obtain ⟨b',hA',hv⟩:=hx1.2.2 _ l hl;rw [hA] at hA'; cases hA';obtain ⟨es',hrun,hm'⟩:=mset_ok hC hu hk1 hps hms hg hm;have hlt:=heap_lt hg;refine good_write hH1 hl hA (w':={ w with heap:=w.heap.setIfInBounds b (.map es' es'.size) }) ?_ rfl rfl ⟨rfl,Nat.le_refl _⟩ (by simp) (set_far hlt) fun ev=>?_
    ·rcases hop with rfl | rfl<;>simp [execOp,hv,hrun]
    ·simp only [OR];exact ⟨trivial,b,es',hA,by simp [hlt],hm'.stay (ev.stay X)⟩
   ·cases h
  ·cases h
 ·cases h
theorem g_mapEntry(hC:Qad P C)(hH:HR X φ H w){t:Nat}{x k:Operand}{v:AV}{H1:Hp}(h:Qbb C H t (ra x) (ra k)=some (v,H1))(hρ:∀x,VR w (YOf X φ) φ (ra x) (ρ x)) :
  Good nid H X φ w v H1 ((execOp ρ ⟨d,.mapEntry t x k,ty,pos,af,g⟩).run P w):=by
 have hx:=hρ x;have hk:=hρ k;unfold Qbb at h
 split at h
 ·rename_i kt e o kp hmt hxo hkp
  split at h
  ·rename_i kvs ho
   split at h
   ·rename_i z i kvs' hms;simp only [Option.some.injEq,Prod.mk.injEq] at h; obtain ⟨rfl,rfl⟩:=h;have hu:=mapTy_ok hC hmt;obtain ⟨l,b,es,hl,hA,hg,hm⟩:=map_ob hH ho;rw [hxo] at hx; rw [hkp] at hk;simp only [VR] at hx hk;obtain ⟨b',hA',hv⟩:=hx.2.2 _ l hl;rw [hA] at hA'; cases hA';have hlt:=heap_lt hg;have hgo:(getObj b).run P w = .ok (.map es es.size) w:=by simp [getObj,Sem.run,hg]
    have hso2:∀ob,(setObj b ob).run P w = .ok () { w with heap:=w.heap.setIfInBounds b ob }:=fun ob=>by simp [setObj,Sem.run,hg]
    have fin:∀(es':Array MapEntry)(u:Value),(Instr.mapEntry t (.map (some b)) (ρ k)).run P w = .ok (.tuple #[u,.int .i64 (i:Int)]) { w with heap:=w.heap.setIfInBounds b (.map es' es'.size) }→MR w (YOf X φ) 0 kvs' es'.toList→PR w (YOf X φ) z u →
      Good nid H X φ w (.tup [.pl z,.pl (.int .i64 (i:Int))]) (hset H o (some (.map kvs'))) ((execOp ρ ⟨d,.mapEntry t x k,ty,pos,af,g⟩).run P w):=by
     intro es' u hrun hm' hz;refine good_put (v':=.tuple #[u,.int .i64 (i:Int)]) hH hl hA (w':={ w with heap:=w.heap.setIfInBounds b (.map es' es'.size) }) (by simp only [execOp,hv,hrun,Sem.run_bind,Result.andThen_ok,Sem.run_pure]) rfl rfl ⟨rfl,Nat.le_refl _⟩ (by simp) (set_far hlt) (fun ev=>?_) (fun ev=>?_)
     ·simp only [OR];exact ⟨trivial,b,es',hA,by simp [hlt],hm'.stay (ev.stay X)⟩
     ·simp only [VR,VRT];exact ⟨_,rfl,u,_,rfl,PR.stay (ev.stay X) _ _ hz,.int .i64 (i:Int),[],rfl,by simp only [VR,PR],rfl⟩
    unfold ment at hms;cases hkk:keyV C.ty kt kp with
    | false=>simp [hkk] at hms
    | true =>
     simp only [hkk,cond_true] at hms;obtain ⟨kd,hkd⟩:=und_of_keyV hC hkk;have hck:=keyV_ok (w:=w) hC hkk hk false;cases hf:mfind C.ty kt kp kvs 0 with
     | none=>simp [hf] at hms
     | some r =>
      obtain ⟨r',hr,hfk⟩:=findKey_ok hC hkd hk hf hm;simp only [hf] at hms;cases r with
      | none =>
       cases r' with
       | some _=>exact hr.elim
       | none =>
        simp only at hms;cases hz:zeroOf C e with
        | none=>simp [hz] at hms
        | some z' =>
         simp only [hz,Option.some.injEq,Prod.mk.injEq] at hms; obtain ⟨rfl,rfl,rfl⟩:=hms;obtain ⟨u,h1,h2⟩:=zeroOf_ok hC hz;have hl':=hm.length;refine fin (es.push { key:=ρ k,val:=u,born:=es.size }) u ?_ ?_ (h2 _ _)
         ·simp only [Instr.mapEntry,Sem.run_bind,run_underlying hu,Result.andThen_ok,hgo,hck,hfk,h1,hso2,Array.size_push,Sem.run_pure,goInt];simp at hl';rw [hl']
         ·simp only [Array.toList_push];exact hm.append (by simp at hl' ⊢; omega) hk (h2 _ _)
      | some p =>
       cases r' with
       | none=>exact hr.elim
       | some p' =>
        obtain ⟨j,y⟩:=p;obtain ⟨j',u⟩:=p';obtain ⟨rfl,hyu⟩:=hr;simp only at hms;cases hi:kvs[j]? with
        | none=>simp [hi] at hms
        | some q =>
         obtain ⟨q,z0⟩:=q;simp only [hi] at hms;cases hq:eqC kp q with
         | false=>simp [hq] at hms
         | true =>
          simp only [hq,cond_true,Option.some.injEq,Prod.mk.injEq] at hms; obtain ⟨rfl,rfl,rfl⟩:=hms;obtain ⟨e0,h1,hb0,h3,h4⟩:=hm.at hi;obtain ⟨hkq,hbits⟩:=eqC_same hq hk h3;have h1':es[j]?=some e0:=by simpa using h1
          refine fin (es.modify j fun e=>{ e with key:=ρ k }) u ?_ ?_ hyu
          ·have hst:(Instr.keyThatStays (((es[j]?).map (·.key)).getD (ρ k)) (ρ k)).run P w = .ok (ρ k) w:=by
            rw [h1'];simp only [Option.map_some,Option.getD_some,Instr.keyThatStays,←hkq,hbits,if_true,Sem.run_pure]
           have hbn:((es[j]?).map fun x=>(x.born:Int)).getD 0=(j:Int):=by rw [h1']; simp; omega
           simp only [Instr.mapEntry,Sem.run_bind,run_underlying hu,Result.andThen_ok,hgo,hck,hfk,hst,hso2,Array.size_modify,Sem.run_pure,goInt,hbn]
          ·rw [Array.toList_modify];have:=hm.set (j:=j) (k:=q) (x:=z0) (f:=fun e=>{ e with key:=ρ k }) fun e he=>by
            rw [h1] at he; cases he;exact ⟨rfl,by rw [hkq]; exact h3,h4⟩
           rw [show kvs.set j (q,z0)=kvs from by
            apply List.ext_getElem?
            intro m;rw [List.getElem?_set]
            by_cases e:j=m
            ·subst e;rw [if_pos rfl,hi];have:=(List.getElem?_eq_some_iff.1 hi).1;rw [if_pos this]
            ·rw [if_neg e]] at this
           exact this
   ·cases h
  ·cases h
 ·cases h
theorem g_entryStore(hH:HR X φ H w){t:Nat}{x s y:Operand}{H1:Hp}(h:Qcb H (ra x) (ra s) (ra y)=some H1)(hρ:∀x,VR w (YOf X φ) φ (ra x) (ρ x)) :
  Good nid H X φ w (.tup []) H1 ((execOp ρ ⟨d,.entryStore t x s y,ty,pos,af,g⟩).run P w):=by
 have hx:=hρ x;have hs:=hρ s;unfold Qcb at h
 split at h
 ·rename_i o k n p H2 hxo hso hpl;obtain ⟨φ1,hH1,ev1,kp1,hps⟩:=plain_ok hH hpl (hρ y);refine Good.pre ev1 kp1 ?_
  split at h
  ·rename_i kvs i ho hn
   split at h
   ·rename_i kp z hi;simp only [Option.some.injEq] at h; subst h;obtain ⟨l,b,es,hl,hA,hg,hm⟩:=map_ob hH1 ho;rw [hxo] at hx; rw [hso] at hs;have hx1:=VR.stay ev1 X _ _ hx;simp only [VR,PR] at hx1 hs;obtain ⟨b',hA',hv⟩:=hx1.2.2 _ l hl;rw [hA] at hA'; cases hA';have hlt:=heap_lt hg;have hgo:(getObj b).run P w = .ok (.map es es.size) w:=by simp [getObj,Sem.run,hg]
    have hso2:∀ob,(setObj b ob).run P w = .ok () { w with heap:=w.heap.setIfInBounds b ob }:=fun ob=>by simp [setObj,Sem.run,hg]
    obtain ⟨e0,h1,hb0,h3,h4⟩:=hm.at hi;have hn':=natOf_eq hn;have hfi:es.findIdx? (fun e=>(e.born:Int) == n)=some i:=by
     have hi':i<es.size:=by
      have:=(List.getElem?_eq_some_iff.1 h1).1; simpa using this
     rw [Array.findIdx?_eq_some_iff_getElem];refine ⟨hi',?_,fun j hj=>?_⟩
     ·have:es[i]=e0:=by
       have:=(List.getElem?_eq_some_iff.1 h1).2; simpa using this
      rw [this,hb0,hn']; simp
     ·have hjk:j<kvs.length:=by
       have:=hm.length; simp at this; omega
      obtain ⟨ej,k1,k2,_⟩:=hm.at (j:=j) (k:=kvs[j].1) (x:=kvs[j].2) (by rw [List.getElem?_eq_getElem hjk]);have:es[j]'(by omega)=ej:=by
       have:=(List.getElem?_eq_some_iff.1 k1).2; simpa using this
      rw [this,k2,hn']
      simp; omega
    refine good_write hH1 hl hA (w':={ w with heap:=w.heap.setIfInBounds b (.map (es.modify i fun e=>{ e with val:=ρ y }) es.size) }) ?_ rfl rfl ⟨rfl,Nat.le_refl _⟩ (by simp) (set_far hlt) fun ev=>?_
    ·simp only [execOp,Instr.entryStore,hv,Sem.run_bind,hgo,Result.andThen_ok,hs,asInt,asIntOf,Sem.run_pure,hfi,hso2]
    ·simp only [OR];refine ⟨trivial,b,es.modify i fun e=>{ e with val:=ρ y },hA,by simp [hlt],?_⟩;rw [Array.toList_modify];have hm':=hm.stay (ev.stay X);exact hm'.set fun e he=>by
      rw [h1] at he; cases he;exact ⟨rfl,PR.stay (ev.stay X) _ _ h3,PR.stay (ev.stay X) _ _ hps⟩
   ·cases h
  ·cases h
 ·cases h
theorem good_fresh{r:Result Next}{n:Nat}{ob:Obj}{v:AV}{v':Value}{x:Ob}(hH:HR X φ H w)(hf:Free φ H n)(hr:r = .ok (.value v') (w.alloc ob))
  (hO:Ev φ w (φ.set n (.at false ⟨some (w.heap.size,0),0,0,0,noD⟩)) (w.alloc ob)→OR (w.alloc ob) (YOf X (φ.set n (.at false ⟨some (w.heap.size,0),0,0,0,noD⟩))) (φ.set n (.at false ⟨some (w.heap.size,0),0,0,0,noD⟩)) false ⟨some (w.heap.size,0),0,0,0,noD⟩ x)
  (hv:VR (w.alloc ob) (YOf X (φ.set n (.at false ⟨some (w.heap.size,0),0,0,0,noD⟩))) (φ.set n (.at false ⟨some (w.heap.size,0),0,0,0,noD⟩)) v v'):Good n H X φ w v (hput H n x) r:=by
 have ev:Ev φ w (φ.set n (.at false ⟨some (w.heap.size,0),0,0,0,noD⟩)) (w.alloc ob):=Ev.new hf.fr _ _ (fun b p e=>by cases Loc.has_no e; exact Nat.le_refl _);exact ⟨_,_,_,φ.set n (.at false ⟨some (w.heap.size,0),0,0,0,noD⟩),hr,.inl rfl,hv,hH.new hf _ _ x (fun b p e=>by cases Loc.has_no e; rfl) (hO ev),ev,(Qar hf.le).1,fun k hk h=>by rw [Phi.set_ne hk]; exact h⟩
theorem g_makeMap(hH:HR X φ H w)(hf:Free φ H nid){t:Nat} : Good nid H X φ w (.mp nid) (hput H nid (.map [])) ((execOp ρ ⟨d,.makeMap t none,ty,pos,af,g⟩).run P w):=by
 refine good_fresh hH hf (ob:=.map #[] 0) (v':=.map (some w.heap.size)) (by simp [execOp,Instr.makeMap]) (fun ev=>?_) ?_
 ·simp only [OR,MR];exact ⟨trivial,_,#[],rfl,heap_alloc_new w _,rfl⟩
 ·simp only [VR];refine ⟨rfl,(by rw [Phi.set_self]; intro h; cases h),fun _ l' hl'=>?_⟩;rw [Phi.set_self] at hl'; cases hl';exact ⟨_,rfl,rfl⟩
theorem g_range(hC:Qad P C)(hH:HR X φ H w)(hf:Free φ H nid){t:Nat}{x:Operand}{v:AV}{H1:Hp}(h:evRange C nid H t (ra x)=some (v,H1))(hx:VR w (YOf X φ) φ (ra x) (ρ x)) :
  Good nid H X φ w v H1 ((execOp ρ ⟨d,.range t x,ty,pos,af,g⟩).run P w):=by
 unfold evRange at h
 split at h
 ·rename_i o hxo
  split at h
  ·rename_i kt kvs hmt ho;simp only [Option.some.injEq,Prod.mk.injEq] at h; obtain ⟨rfl,rfl⟩:=h;obtain ⟨kt,e⟩:=kt;have hu:=mapTy_ok hC hmt;obtain ⟨l,b,es,hl,hA,hg,hm⟩:=map_ob hH ho;rw [hxo] at hx;simp only [VR] at hx;obtain ⟨b',hA',hv⟩:=hx.2.2 _ l hl;rw [hA] at hA'; cases hA';have hlen:=hm.length;simp at hlen;have hne:o≠nid:=fun e=>by rw [e,hf.fr] at hl; cases hl
   refine good_fresh hH hf (ob:=.mapIter (some b) es.size #[] es.size) (v':=.pointer (some ⟨w.heap.size,0,none⟩)) ?_ (fun ev=>?_) ?_
   ·have hgo:(getObj b).run P w = .ok (.map es es.size) w:=by simp [getObj,Sem.run,hg]
    simp [execOp,Instr.range,hv,run_underlying hu,hgo]
   ·simp only [OR];refine ⟨trivial,_,rfl,?_,fun z lo hlo=>?_⟩
    ·rw [Phi.set_ne hne,hl]; intro h; cases h
    ·rw [Phi.set_ne hne,hl] at hlo; cases hlo;exact ⟨b,hA,by rw [heap_alloc_new,hlen]⟩
   ·simp only [VR];refine ⟨rfl,(by rw [Phi.set_self]; intro h; cases h),fun _ l' hl'=>?_⟩;rw [Phi.set_self] at hl'; cases hl';exact ⟨_,rfl,rfl⟩
  ·cases h
 ·cases h
theorem iter_ob(hH:HR X φ H w){i o n:Nat}{seen:List Nat}{kvs:List (PV×PV)}(hi:hget H i=some (.iter o n seen))(ho:hget H o=some (.map kvs)) :
  ∃l li b bi es,φ o = .at false l∧l.A=some (b,0)∧w.heap[b]?=some (.map es es.size)∧MR w (YOf X φ) 0 kvs es.toList∧φ i = .at false li∧li.A=some (bi,0)∧w.heap[bi]?=some (.mapIter (some b) n seen.toArray n):=by
 obtain ⟨l,b,es,hl,hA,hg,hm⟩:=map_ob hH ho;obtain ⟨z,li,hli,hO⟩:=hH.ob _ _ hi;simp only [OR] at hO;obtain ⟨rfl,bi,hAi,_,hm2⟩:=hO;obtain ⟨m,hA2,hgi⟩:=hm2 _ l hl;rw [hA] at hA2; cases hA2;exact ⟨l,li,b,bi,es,hl,hA,hg,hm,hli,hAi,hgi⟩
theorem g_entry(hH:HR X φ H w){x:Operand}{v:AV}(h:evEntry H (ra x)=some v)(hx:VR w (YOf X φ) φ (ra x) (ρ x)) :
  ∃u,(execOp ρ ⟨d,.entry x,ty,pos,af,g⟩).run P w = .ok (.value u) w∧VR w (YOf X φ) φ v u:=by
 unfold evEntry at h
 split at h
 ·rename_i i hxo
  split at h
  ·rename_i o n seen hi
   split at h
   ·rename_i kvs j ho hj;cases hb:Nat.beq kvs.length n with
    | false=>simp [hb] at h
    | true =>
     simp only [hb,cond_true] at h;simp only [Nat.beq_eq] at hb
     split at h
     ·rename_i k y hk;simp only [Option.some.injEq] at h; subst h;obtain ⟨l,li,b,bi,es,hl,hA,hg,hm,hli,hAi,hgi⟩:=iter_ob hH hi ho;rw [hxo] at hx;simp only [VR] at hx;obtain ⟨b',hA',hv⟩:=hx.2.2 _ li hli;rw [hAi] at hA'; cases hA';obtain ⟨e0,h1,hb0,h3,h4⟩:=hm.at hk;have hlen:=hm.length;simp at hlen;have hback:seen.toArray.back?=some j:=by
       simp [Array.back?,List.getLast?_eq_getElem?] at hj ⊢; exact hj
      have hfind:es.find? (fun e=>e.born == j)=some e0:=by
       have hj':j<es.size:=by
        have:=(List.getElem?_eq_some_iff.1 h1).1; simpa using this
       rw [←Array.find?_toList];rw [List.find?_eq_some_iff_getElem];refine ⟨by rw [hb0]; simp,j,by simpa using hj',?_,fun m hm'=>?_⟩
       ·have:=(List.getElem?_eq_some_iff.1 h1).2; exact this
       ·have hmk:m<kvs.length:=by omega
        obtain ⟨em,k1,k2,_⟩:=hm.at (j:=m) (k:=kvs[m].1) (x:=kvs[m].2) (by rw [List.getElem?_eq_getElem hmk]);have:=(List.getElem?_eq_some_iff.1 k1).2;rw [this,k2]
        simp; omega
      refine ⟨.tuple #[e0.key,e0.val],?_,?_⟩
      ·have hne:es.size=n:=by omega
       simp [execOp,Instr.entry,hv,getObj,Sem.run,hgi,hback,hg,hne,hfind]
      ·simp only [VR,VRT];exact ⟨_,rfl,_,_,rfl,h3,_,_,rfl,h4,rfl⟩
     ·cases h
   ·cases h
  ·cases h
 ·cases h
theorem g_next(hH:HR X φ H w){x:Operand}{outs:List (AV×Hp)}(h:evNext H (ra x)=some outs)(hx:VR w (YOf X φ) φ (ra x) (ρ x)) :
  ∃r∈outs,Good nid H X φ w r.1 r.2 ((execOp ρ ⟨d,.next x false,ty,pos,af,g⟩).run P w):=by
 unfold evNext at h
 split at h
 ·rename_i i hxo
  split at h
  ·rename_i o n seen hi
   split at h
   ·rename_i kvs ho;cases hb:Nat.beq kvs.length n with
    | false=>simp [hb] at h
    | true =>
     simp only [hb,cond_true] at h;simp only [Nat.beq_eq] at hb;obtain ⟨l,li,b,bi,es,hl,hA,hg,hm,hli,hAi,hgi⟩:=iter_ob hH hi ho;rw [hxo] at hx;simp only [VR] at hx;obtain ⟨b',hA',hv⟩:=hx.2.2 _ li hli;rw [hAi] at hA'; cases hA';have hlen:=hm.length;simp at hlen;have born:∀j (hj:j<es.size),es[j].born=j:=fun j hj=>by
      have hjk:j<kvs.length:=by omega
      obtain ⟨em,k1,k2,_⟩:=hm.at (j:=j) (k:=kvs[j].1) (x:=kvs[j].2) (by rw [List.getElem?_eq_getElem hjk]);have:=(List.getElem?_eq_some_iff.1 k1).2;simp at this; rw [this,k2]; omega
     have hold:∀y∈es.toList,y.born<n:=fun y hy=>by
      obtain ⟨j,hj,e⟩:=List.getElem_of_mem hy;have:=born j (by simpa using hj);simp at e; rw [e] at this; simp at hj; omega
     have hexec:∀(u:Value)(w2:World),(Instr.next (.pointer (some ⟨bi,0,none⟩)) false ty).run P w = .ok u w2→(execOp ρ ⟨d,.next x false,ty,pos,af,g⟩).run P w = .ok (.value u) w2:=fun u w2 hr=>by
      simp [execOp,hv,hr]
     rcases run_next_at (P:=P) w ty bi b n n seen.toArray es es.size hgi hg hold (Nat.le_refl _) with ⟨h0,hrun⟩|⟨e,he,w1,hw1,hrun⟩
     ·have hall:(List.range n).filter (fun j=>!(seen.any (Nat.beq j)))=[]:=by
       rw [List.filter_eq_nil_iff];intro j hj hc;rw [List.mem_range] at hj;have hsz:j<es.size:=by omega
       have hmem:es[j]∈leftOf es seen.toArray:=by
        unfold leftOf;rw [Array.mem_filter];refine ⟨Array.getElem_mem hsz,?_⟩;rw [born j hsz];simp only [Bool.not_eq_true',←Bool.not_eq_true,List.any_eq_true] at hc;simp only [Bool.not_eq_true',←Bool.not_eq_true,List.contains_toArray,List.contains_iff_mem];exact fun hm=>hc ⟨j,hm,by simp⟩
       have:(leftOf es seen.toArray) = #[]:=Array.eq_empty_of_size_eq_zero h0;rw [this] at hmem; simp at hmem
      rw [hall] at h;simp only [Option.some.injEq] at h; subst h;exact ⟨_,List.mem_singleton.2 rfl,Qcj (hexec _ _ hrun) (by simp only [VR,VRT]; exact ⟨_,rfl,_,_,rfl,by simp only [PR],rfl⟩) hH⟩
     ·have he2:e∈es∧(!seen.toArray.contains e.born)=true:=by
       unfold leftOf at he;have:e∈Array.filter (fun e=>!seen.toArray.contains e.born) es:=by simpa using he
       rwa [Array.mem_filter] at this
      obtain ⟨j,hj,hej⟩:=Array.getElem_of_mem he2.1;have hbj:e.born=j:=by rw [←hej]; exact born j hj
      have hjn:j∉seen:=by
       have:=he2.2;rw [hbj] at this;simpa using this
      have hjm:j∈(List.range n).filter (fun j=>!(seen.any (Nat.beq j))):=by
       rw [List.mem_filter];refine ⟨List.mem_range.2 (by omega),?_⟩;simp only [Bool.not_eq_true',←Bool.not_eq_true,List.any_eq_true]
       rintro ⟨k,hk,hb2⟩
       have:=Nat.eq_of_beq_eq_true hb2; subst this;exact hjn hk
      have hjk:j<kvs.length:=by omega
      obtain ⟨e',k1,_,k3,k4⟩:=hm.at (j:=j) (k:=kvs[j].1) (x:=kvs[j].2) (by rw [List.getElem?_eq_getElem hjk]);have hee:e'=e:=by
       have:=(List.getElem?_eq_some_iff.1 k1).2;simp at this; rw [←this,hej]
      subst hee;have hkj:kvs[j]?=some (kvs[j].1,kvs[j].2):=by rw [List.getElem?_eq_getElem hjk]
      have hl2:∃l2:List Nat,outs=l2.map (fun j=>match kvs[j]? with | some (k,v)=>(.tup [.pl (.bool true),.pl k,.pl v],hset H i (some (.iter o n (seen++[j])))) | none=>(.un,H))∧j∈l2:=by
       split at h
       ·rename_i heq; rw [heq] at hjm; cases hjm
       ·simp only [Option.some.injEq] at h;exact ⟨_,h.symm,hjm⟩
      obtain ⟨l2,rfl,hj2⟩:=hl2;refine ⟨_,List.mem_map.2 ⟨j,hj2,rfl⟩,?_⟩;simp only [hkj];have hlt:=heap_lt hgi;have hw1s:w1.heap=w.heap∧w1.os=w.os∧w1.tape=w.tape∧(w1.output=w.output∧w.drawn≤w1.drawn):=by rcases hw1 with rfl | rfl<;>first | exact ⟨rfl,rfl,rfl,rfl,Nat.le_refl _⟩ | exact ⟨rfl,rfl,rfl,rfl,Nat.le_succ _⟩
      obtain ⟨g1,g2,g3,g4⟩:=hw1s;refine good_put hH hli hAi (w':=ChangeMaps.setBlock w1 bi (.mapIter (some b) n (seen.toArray.push e'.born) es.size)) (hexec _ _ hrun) g2 g3 g4 (by simp [ChangeMaps.setBlock,g1]) (fun k hk=>by simp [ChangeMaps.setBlock,g1,Array.getElem?_setIfInBounds_ne (Ne.symm hk)]) (fun ev=>?_) (fun ev=>?_)
      ·simp only [OR];refine ⟨trivial,bi,hAi,by rw [hl]; (intro h; cases h),fun z lo hlo=>?_⟩;rw [hl] at hlo; cases hlo;refine ⟨b,hA,?_⟩;have:es.size=n:=by omega
       simp [ChangeMaps.setBlock,g1,hlt,hbj,this]
      ·simp only [VR,VRT];exact ⟨_,rfl,_,_,rfl,by simp only [PR],_,_,rfl,PR.stay (ev.stay X) _ _ k3,_,_,rfl,PR.stay (ev.stay X) _ _ k4,rfl⟩
   ·cases h
  ·cases h
 ·cases h

theorem PRLL.take{sz:Nat} : ∀{es:List (List PV)} {vss:List (List Value)} (n:Nat),PRLL w Y sz es vss→PRLL w Y sz (es.take n) (vss.take n)
 | [],vss,n,h=>by simp only [PRLL] at h; subst h; simp [PRLL]
 | e::es,vss,0,h=>by simp [PRLL]
 | e::es,vss,n+1,h=>by
  simp only [PRLL] at h;obtain ⟨vs,r,rfl,h1,h2,h3⟩:=h;simp only [List.take_succ_cons,PRLL];exact ⟨vs,_,rfl,h1,h2,PRLL.take n h3⟩
theorem rowOf_ok(hH:HR X φ H w){a:AV}{v:Value}{o off len sz:Nat}{es:List (List PV)}(h:rowOf H a=some (o,off,len,sz,es))(hv:VR w (YOf X φ) φ a v) :
  hget H o=some (.row false sz es)∧off+len≤es.length∧∃l A c,φ o = .at false l∧OR w (YOf X φ) φ false l (.row false sz es)∧v = .slice A len c∧len≤c∧(0<len→A=l.addr off∧A≠none):=by
 unfold rowOf at h
 split at h
 ·rename_i o'
  split at h
  ·rename_i sz' es' ho;simp only [Option.some.injEq,Prod.mk.injEq] at h; obtain ⟨rfl,rfl,rfl,rfl,rfl⟩:=h;obtain ⟨z,l,hl,hO⟩:=hH.ob _ _ ho;simp only [VR] at hv;have he:=hv.2.2 _ l hl;have hO':=hO;simp only [OR] at hO;obtain ⟨rfl,h1,h2,h3,h4,h5⟩:=hO;refine ⟨ho,by omega,l,_,_,hl,hO',by rw [he,h1],by omega,fun hpos=>⟨rfl,?_⟩⟩;rcases h5 with ⟨_,h6⟩|⟨b,p,t,cs,hA,_⟩
   ·omega
   ·simp [Loc.addr,hA]
  ·cases h
 ·rename_i o' off' len'
  split at h
  ·rename_i sz' es' ho;cases hb:Nat.ble (off'+len') es'.length with
   | false=>simp [hb] at h
   | true =>
    simp only [hb,cond_true,Option.some.injEq,Prod.mk.injEq] at h; obtain ⟨rfl,rfl,rfl,rfl,rfl⟩:=h;have hb:=ble_t hb;obtain ⟨z,l,hl,hO⟩:=hH.ob _ _ ho;simp only [VR] at hv;obtain ⟨A,c,he,hle,hc,hA0⟩:=hv.2.2 _ l hl;have hO':=hO;simp only [OR] at hO;obtain ⟨rfl,h1,h2,h3,h4,h5⟩:=hO;exact ⟨ho,hb,l,A,c,hl,hO',he,by omega,fun hpos=>hA0 (by omega)⟩
  ·cases h
 ·cases h
theorem row_put(hH:HR X φ H w){o off sz:Nat}{es news:List (List PV)}{vss:List (List Value)}{l:Loc}{A:Option Addr}{r:Result Next}{v:AV}{v':Value}(hl:φ o = .at false l)(ho:hget H o=some (.row false sz es))(hO:OR w (YOf X φ) φ false l (.row false sz es))(hle:off+news.length≤es.length)
  (hn:PRLL w (YOf X φ) sz news vss) (hA:0<news.length→A=l.addr off∧A≠none) (hv:∀w' φ',VR w' (YOf X φ') φ' v v')
  (hr:∀w',(0<news.length→∀a,A=some a→(storeCells a vss.flatten).run P w = .ok () w')→(news.length=0→w'=w)→r = .ok (.value v') w'):Good nid H X φ w v (hset H o (some (.row false sz (rowPut es off news)))) r:=by
 rcases Nat.eq_zero_or_pos news.length with h0 | hpos
 ·have hnil:news=[]:=List.length_eq_zero_iff.1 h0;subst hnil;have:rowPut es off []=es:=by simp [rowPut]
  rw [this,set_same ho];exact Qcj (hr w (fun h=>by simp at h) (fun _=>rfl)) (hv w φ) hH
 ·obtain ⟨hA1,hA2⟩:=hA hpos;have hO':=hO;simp only [OR] at hO;obtain ⟨_,h1,h2,h3,h4,h5⟩:=hO;rcases h5 with ⟨h6,h7⟩|⟨b,p,t,cs,hAl,hg,hs,hE,hY⟩
  ·omega
  ·have hAe:A=some ⟨b,p+off*sz,none⟩:=by rw [hA1]; simp [Loc.addr,hAl,h2]
   have hfl:=Qby hn.size;rw [hn.length] at hfl;have hmul:(off+news.length)*sz≤l.c*sz:=Nat.mul_le_mul_right sz (by omega);rw [Nat.add_mul] at hmul;have hth:w.there b (p+off*sz) vss.flatten.length:=fun j hj=>by
    have hj':p+off*sz+j<cs.size:=by omega
    constructor
    ·simp [World.cell?,hg,hj']
    ·simp [World.frozen?,hg]
   have hrun:=run_cells (P:=P) hth (PRLL.one hn);obtain ⟨f1,f2,f3,f4,f5⟩:=Qbl b vss.flatten (p+off*sz) w;obtain ⟨cs',hcs,hcsz⟩:=setCells_size (vs:=vss.flatten) (o:=p+off*sz) hg (by omega);refine good_put hH hl hAl (hr (w.setCells b (p+off*sz) vss.flatten) (fun _ a ha=>?_) (fun h=>by omega)) f1 f2 f3 f4 f5 (fun ev=>?_) (fun ev=>hv _ _)
   ·rw [hAe] at ha; cases ha; exact hrun
   ·simp only [OR];have hlen:(rowPut es off news).length=es.length:=by simp [rowPut]; omega
    refine ⟨trivial,by rw [hlen]; exact h1,h2,h3,h4,.inr ⟨b,p,t,cs',hAl,hcs,by rw [hcsz]; exact hs,?_,fun h=>by cases h⟩⟩;have:=PRE_store (i:=off) hg hE hn (by omega) (by rw [Nat.add_mul]; omega) (ev.stay X);exact this
theorem elemTy_ok(hC:Qad P C){t:Nat}{te:TI}(h:elemTy C t=some te):∃e,P.underlying t=some (.slice e)∧Qcn P e te=true:=by
 unfold elemTy at h
 split at h
 ·rename_i ti hti
  split at h
  ·rename_i e hk;exact ⟨e,Qct (hC.ty t ti hti) hk,hC.ty e te h⟩
  ·cases h
 ·cases h
theorem x_copy{t t1:Nat}{x y:Operand}{v:Value}(h:(Builtin.copy_ #[t,t1] ty #[ρ x,ρ y]).run P w = .ok v w') :
  (execOp ρ ⟨d,.call { callee:=.builtin .copy,args:=#[x,y],argTypes:=#[t,t1] },ty,pos,af,g⟩).run P w = .ok (.value v) w' :=
 x_bi (f:=Builtin.copy_) (fun _ _ _ _=>rfl) (by simpa using h)
theorem x_clear{t:Nat}{x:Operand}{v:Value}(h:(Builtin.clear_ #[t] ty #[ρ x]).run P w = .ok v w') :
  (execOp ρ ⟨d,.call { callee:=.builtin .clear,args:=#[x],argTypes:=#[t] },ty,pos,af,g⟩).run P w = .ok (.value v) w' :=
 x_bi (f:=Builtin.clear_) (fun _ _ _ _=>rfl) (by simpa using h)
theorem g_copy{t t1:Nat}{x y:Operand}{v:AV}{H':Hp}(hC:Qad P C)(hH:HR X φ H w)(h:evCopy C H t t1 (ra x) (ra y)=some (v,H'))(hx:VR w (YOf X φ) φ (ra x) (ρ x))(hy:VR w (YOf X φ) φ (ra y) (ρ y)) :
  Good nid H X φ w v H' ((execOp ρ ⟨d,.call { callee:=.builtin .copy,args:=#[x,y],argTypes:=#[t,t1] },ty,pos,af,g⟩).run P w):=by
 unfold evCopy at h
 split at h
 ·rename_i src te hsrc hte;cases hst:srcTy C t1 (ra y) with
  | false=>simp [hst] at hsrc
  | true =>
   simp only [hst,cond_true] at hsrc;obtain ⟨e,hu,hE⟩:=elemTy_ok hC hte;have hs:=run_size (w:=w) hE;cases hg1:(!(src.all fun c=>Nat.beq c.length te.size)||Nat.beq te.size 0) with
   | true=>simp [hg1] at h
   | false =>
    simp only [hg1,cond_false] at h;rw [Bool.or_eq_false_iff] at hg1;have hall:src.all (fun c=>Nat.beq c.length te.size)=true:=by simpa using hg1.1
    obtain ⟨_,hlen,vss,hvss,hfc⟩:=src_ok hC hH hst hsrc hall hy
    split at h
    ·rename_i f sz hxv;simp only [Option.some.injEq,Prod.mk.injEq] at h; obtain ⟨rfl,rfl⟩:=h;rw [hxv] at hx;simp only [VR,PR] at hx;obtain ⟨A,c,he,_⟩:=hx;have hf0:=hfc 0 w (Nat.zero_le _) rfl;simp only [List.take_zero,List.flatten_nil] at hf0;refine Qcj (x_copy (v:=.int .i64 0) ?_) (by simp only [VR,PR]) hH;rw [he];cases A<;>simp [Builtin.copy_,run_underlying hu,hlen,hs,hf0,storeCells,goInt]
    ·split at h
     ·rename_i o off len sz es hro;cases hb:Nat.beq sz te.size with
      | false=>simp [hb] at h
      | true =>
       simp only [hb,cond_true,Option.some.injEq,Prod.mk.injEq] at h; obtain ⟨rfl,rfl⟩:=h;simp only [Nat.beq_eq] at hb;subst hb;obtain ⟨ho,hle,l,A,c,hl,hO,he,hlc,hA⟩:=rowOf_ok hH hro hx;have hmin:Nat.min src.length len≤src.length:=Nat.min_le_left _ _;have hmin2:Nat.min src.length len≤len:=Nat.min_le_right _ _;have htl:(src.take (Nat.min src.length len)).length=Nat.min src.length len:=by simp
       have hf:=hfc (Nat.min src.length len) w hmin rfl;refine row_put (P:=P) (A:=A) (vss:=vss.take (Nat.min src.length len)) hH hl ho hO (by omega) (hvss.take _) (fun hpos=>hA (by omega)) (fun _ _=>by simp only [VR,PR]) fun w' hst' h0=>x_copy (v:=.int .i64 ((Nat.min src.length len:Nat):Int)) ?_;rw [he];rcases Nat.eq_zero_or_pos (Nat.min src.length len) with hz | hpos
       ·rw [h0 (by omega)];rw [hz] at hf;simp only [List.take_zero,List.flatten_nil] at hf;cases A<;>simp [Builtin.copy_,run_underlying hu,hlen,hs,hz,hf,storeCells,goInt]
       ·obtain ⟨_,hA2⟩:=hA (by omega);cases A with
        | none=>exact absurd rfl hA2
        | some a0 =>
         have:=hst' (by omega) a0 rfl;simp [Builtin.copy_,run_underlying hu,hlen,hs,hf,this,goInt]
     ·cases h
 ·cases h
theorem g_clear{t:Nat}{x:Operand}{v:AV}{H':Hp}(hC:Qad P C)(hH:HR X φ H w)(h:evClear C H t (ra x)=some (v,H'))(hx:VR w (YOf X φ) φ (ra x) (ρ x)) :
  Good nid H X φ w v H' ((execOp ρ ⟨d,.call { callee:=.builtin .clear,args:=#[x],argTypes:=#[t] },ty,pos,af,g⟩).run P w):=by
 unfold evClear at h
 split at h
 ·rename_i te hte;obtain ⟨e,hu,hE⟩:=elemTy_ok hC hte;obtain ⟨ie,ze,hie,hse,hbe,hze,hzl⟩:=Qbm hE;cases hz0:Nat.beq te.size 0 with
  | true=>simp [hz0] at h
  | false =>
   simp only [hz0,cond_false] at h;have hpos0:te.size≠0:=fun e=>by rw [e] at hz0; simp at hz0
   have hzs:ze.cells.size=te.size:=by rw [←tyOK_len hE,←(hzl w (fun _=>False)).length,Array.length_toList]
   have hzv:(zeroValue e).run P w = .ok ze w:=by simp [zeroValue,typeInfo,hie,hze]
   have htup:∀w' φ',VR w' (YOf X φ') φ' (.tup []) (.tuple #[]):=fun _ _=>by simp only [VR,VRT]; exact ⟨[],rfl,rfl⟩
   split at h
   ·rename_i f sz hxv;simp only [Option.some.injEq,Prod.mk.injEq] at h; obtain ⟨rfl,rfl⟩:=h;rw [hxv] at hx;simp only [VR,PR] at hx;obtain ⟨A,c,he,_⟩:=hx;refine Qcj (x_clear (v:=.tuple #[]) ?_) (htup w φ) hH;rw [he];cases A<;>simp [Builtin.clear_,run_underlying hu]
   ·split at h
    ·rename_i o off len sz es hro;cases hb:Nat.beq sz te.size with
     | false=>simp [hb] at h
     | true =>
      simp only [hb,cond_true,Option.some.injEq,Prod.mk.injEq] at h; obtain ⟨rfl,rfl⟩:=h;simp only [Nat.beq_eq] at hb;subst hb;obtain ⟨ho,hle,l,A,c,hl,hO,he,hlc,hA⟩:=rowOf_ok hH hro hx;refine row_put (P:=P) (A:=A) (vss:=List.replicate len ze.cells.toList) hH hl ho hO (by simp; omega) (PRLL.replicate (tyOK_len hE) (hzl w _)) (fun hpos=>hA (by simpa using hpos)) htup fun w' hst' h0=>x_clear (v:=.tuple #[]) ?_;rw [he];simp only [List.length_replicate] at hst' h0;cases len with
      | zero =>
       rw [h0 rfl];cases A<;>simp [Builtin.clear_,run_underlying hu]
      | succ m =>
       obtain ⟨_,hA2⟩:=hA (by omega);cases A with
       | none=>exact absurd rfl hA2
       | some a0 =>
        have:=hst' (by omega) a0 rfl;have hzz:(Builtin.zeroCells ze.cells (m+1)).toList=(List.replicate (m+1) ze.cells.toList).flatten:=by
         unfold Builtin.zeroCells;rw [show (m+1)*ze.cells.size=(m+1)*te.size from by rw [hzs]];rw [zeros_eq hzs (by omega)]
        simp [Builtin.clear_,run_underlying hu,hzv,hzz,this]
    ·cases h
 ·cases h
end
end Go.Proofs.Ytbgjlpdeoljmiaa
namespace Go.Proofs.Ytbgjlpdeoljmiaa
set_option linter.unusedSimpArgs false
set_option linter.unusedVariables false
open Go.RowKit
section
variable {P:Program} {C:Cfg} {w w':World} {Y Y' X:Nat→Prop} {φ φ1 φ2:Phi} {H H1 H2:Hp}
variable {b:Nat} {nid:Nat} {ρ:Operand→Value} {ra:Operand→AV} {d:Option Tmp} {ty:TypeId} {pos:String} {af:Array Edge} {g:Option (Nat×Bool)}
structure Ab (φ:Phi) (H:Hp) (φ1:Phi) (H1:Hp):Prop where
 ph:∀o,φ1 o=φ o∨(φ1 o = .dead∧φ o≠.fresh)
 ob:∀o x,hget H1 o=some x→hget H o=some x∧φ1 o=φ o
 live:∀o z l,φ1 o = .at z l→hget H1 o=hget H o
 len:H1.length=H.length
theorem Ab.refl(φ:Phi)(H:Hp):Ab φ H φ H:=⟨fun _=>.inl rfl,fun _ _ h=>⟨h,rfl⟩,fun _ _ _ _=>rfl,rfl⟩
theorem Ab.trans(a:Ab φ H φ1 H1)(b:Ab φ1 H1 φ2 H2):Ab φ H φ2 H2 where
 ph o:=by
  rcases b.ph o with h | ⟨h,hf⟩
  ·rcases a.ph o with k | ⟨k,kf⟩
   ·exact .inl (h.trans k)
   ·exact .inr ⟨h.trans k,kf⟩
  ·rcases a.ph o with k | ⟨k,kf⟩
   ·exact .inr ⟨h,by rw [←k]; exact hf⟩
   ·exact .inr ⟨h,kf⟩
 ob o x hx:=by
  obtain ⟨h1,h2⟩:=b.ob o x hx;obtain ⟨k1,k2⟩:=a.ob o x h1;exact ⟨k1,h2.trans k2⟩
 live o z l ho:=by
  rcases b.ph o with h | ⟨h,_⟩
  ·rw [b.live o z l ho,a.live o z l (h.symm.trans ho)]
  ·rw [h] at ho; cases ho
 len:=b.len.trans a.len
theorem Ab.kill{o:Nat}{z:Bool}{l:Loc}(hl:φ o = .at z l)(hlt:o<H.length):Ab φ H (φ.set o .dead) (hset H o none) where
 ph k:=by
  by_cases e:k=o
  ·subst e; exact .inr ⟨Phi.set_self,by rw [hl]; intro h; cases h⟩
  ·exact .inl (Phi.set_ne e)
 ob k x hx:=by
  by_cases e:k=o
  ·subst e; rw [Qaa hlt,if_pos rfl] at hx; cases hx
  ·rw [Qaa hlt,if_neg e] at hx; exact ⟨hx,Phi.set_ne e⟩
 live k z l hk:=by
  by_cases e:k=o
  ·subst e; rw [Phi.set_self] at hk; cases hk
  ·rw [Qaa hlt,if_neg e]
 len:=Qv
def Gone(φ φ1:Phi)(b:Nat):Prop:=∃o l p,φ o = .at false l∧l.has b p∧φ1 o = .dead
def GoneA(φ φ1:Phi)(b:Nat):Prop:=∃o l p,φ o = .at false l∧l.A=some (b,p)∧φ1 o = .dead
theorem GoneA.gone(h:GoneA φ φ1 b):Gone φ φ1 b:=by
 obtain ⟨o,l,p,g1,g2,g3⟩:=h;exact ⟨o,l,p,g1,.inl g2,g3⟩
theorem HR.merge{n:Nat}(h:HR X φ H w)(a:Ab φ H φ1 H1)(hf:Free φ H n)(l':Loc)(x:Ob)(hos:w'.os=w.os)(htape:w'.tape=w.tape)(hout:w'.output=w.output∧w.drawn≤w'.drawn)(hsize:w.heap.size≤w'.heap.size)
  (hblk:∀k,k<w.heap.size→¬Gone φ φ1 k→w'.heap[k]?=w.heap[k]?) (hA:∀b p',l'.has b p'→Gone φ φ1 b∨(w.heap.size≤b∧b<w'.heap.size))
  (hO:Ev φ w (φ1.set n (.at false l')) w'→OR w' (YOf X (φ1.set n (.at false l'))) (φ1.set n (.at false l')) false l' x) :
  HR X (φ1.set n (.at false l')) (hput H1 n x) w'∧Ev φ w (φ1.set n (.at false l')) w':=by
 have old:∀{k:Nat} {l:Loc},φ1 k = .at false l→φ k = .at false l:=fun {k l} hk=>by
  rcases a.ph k with e | ⟨e,_⟩
  ·rw [←e]; exact hk
  ·rw [e] at hk; cases hk
 have hfn:φ1 n = .fresh:=by
  rcases a.ph n with e | ⟨_,e⟩
  ·rw [e]; exact hf.fr
  ·exact absurd hf.fr e
 have ev:Ev φ w (φ1.set n (.at false l')) w':=by
  refine ⟨hos,htape,hout,hsize,fun b hb hn=>hblk b hb fun ⟨o,l,p,g1,g2,_⟩=>hn ⟨o,l,p,g1,g2⟩,fun b hb hc=>?_,fun k hf'=>?_⟩
  ·obtain ⟨k,l2,p,hk,hA2⟩:=hc
   by_cases e:k=n
   ·subst e; rw [Phi.set_self] at hk; cases hk;rcases hA b p hA2 with ⟨o,l,p',g1,g2,_⟩|⟨hge,_⟩
    ·exact ⟨o,l,p',g1,g2⟩
    ·omega
   ·rw [Phi.set_ne e] at hk; exact ⟨k,l2,p,old hk,hA2⟩
  ·have e:k≠n:=fun e=>hf' (by rw [e]; exact hf.fr);rw [Phi.set_ne e];rcases a.ph k with q | ⟨q,_⟩
   ·exact .inl q
   ·exact .inr (.inl q)
 refine ⟨?_,ev⟩;have hle:n≤H1.length:=by rw [a.len]; exact hf.le
 have hlen2:=Qar (x:=x) hle;refine h.next ev (fun k=>?_) (fun k z l2 hk=>?_) (fun k y hy=>?_) (fun k l2 b p hk hA2=>?_)
 ·intro hk;have hl:=a.len;rw [Phi.set_ne (by omega)];rcases a.ph k with q | ⟨_,q⟩
  ·rw [q]; exact h.fresh k (by omega)
  ·exact absurd (h.fresh k (by omega)) q
 ·by_cases e:k=n
  ·exact ⟨x,by rw [Qan hle,if_pos e]⟩
  ·rw [Phi.set_ne e] at hk;rcases a.ph k with q | ⟨q,_⟩
   ·obtain ⟨y,hy⟩:=h.live k z l2 (by rw [←q]; exact hk);exact ⟨y,by rw [Qan hle,if_neg e,a.live k z l2 hk]; exact hy⟩
   ·rw [q] at hk; cases hk
 ·by_cases e:k=n
  ·rw [Qan hle,if_pos e] at hy; cases hy;exact .inr ⟨false,l',by rw [e,Phi.set_self],hO ev⟩
  ·rw [Qan hle,if_neg e] at hy;obtain ⟨y1,y2⟩:=a.ob k y hy;refine .inl ⟨y1,by rw [Phi.set_ne e]; exact y2,fun l2 b p hk hA2=>hblk b (h.out k l2 b p hk hA2).2 fun ⟨o,l,p',g1,g2,g3⟩=>?_⟩;have:=h.inj o k l l2 b p' p g1 hk g2 hA2;subst this;rw [g3,hk] at y2; cases y2
 ·by_cases e:k=n
  ·subst e; rw [Phi.set_self] at hk; cases hk;rcases hA b p hA2 with ⟨o,l,p',g1,g2,g3⟩|⟨hge,hlt2⟩
   ·have:=h.out o l b p' g1 g2;refine .inr ⟨this.1,Nat.lt_of_lt_of_le this.2 hsize,fun o' l2 p2 ho' hA'=>?_⟩
    by_cases e3:o'=k
    ·exact e3
    ·rw [Phi.set_ne e3] at ho';have:=h.inj o o' l l2 b p' p2 g1 (old ho') g2 hA';subst this;rw [g3] at ho'; cases ho'
   ·refine .inr ⟨fun hx=>by have:=h.xlt b hx; omega,hlt2,fun o' l2 p2 ho' hA'=>?_⟩
    by_cases e3:o'=k
    ·exact e3
    ·rw [Phi.set_ne e3] at ho';have:=(h.out o' l2 b p2 (old ho') hA').2; omega
  ·rw [Phi.set_ne e] at hk; exact .inl (old hk)

theorem PRC.flat{b:Nat} : ∀{o:Nat} {cs:List PV},flatPL cs=true→PRC w Y b o cs→PRC w Y' b o cs
 | _,[],_,_=>by simp only [PRC]
 | o,c::cs,hf,h=>by
  simp only [flatPL,Bool.and_eq_true] at hf;simp only [PRC] at h ⊢;obtain ⟨⟨v,h1,h2,h3⟩,hr⟩:=h;exact ⟨⟨v,h1,h2,flatP_pr c v hf.1 h3⟩,PRC.flat hf.2 hr⟩
theorem PRE.flatY{b sz:Nat} : ∀{o:Nat} {es:List (List PV)},es.all flatPL=true→PRE w Y b sz o es→PRE w Y' b sz o es
 | _,[],_,_=>by simp only [PRE]
 | o,e::es,hf,h=>by
  simp only [List.all_cons,Bool.and_eq_true] at hf;simp only [PRE] at h ⊢;exact ⟨h.1,PRC.flat hf.1 h.2.1,PRE.flatY hf.2 h.2.2⟩
theorem PR.less{D D':Nat→Prop}(hs:∀b,D b→D' b){p:PV}{v:Value}(h:PR w (fun b=>¬D b) p v):PR w (fun b=>¬D' b) p v :=
 PR.stay ⟨Nat.le_refl _,fun _ _ _ _=>rfl,fun b _ h k=>h (hs b k)⟩ p v h
theorem PRL.less{D D':Nat→Prop}(hs:∀b,D b→D' b){p:List PV}{v:List Value}(h:PRL w (fun b=>¬D b) p v):PRL w (fun b=>¬D' b) p v :=
 PRL.stay ⟨Nat.le_refl _,fun _ _ _ _=>rfl,fun b _ h k=>h (hs b k)⟩ p v h
theorem PRE.less{D D':Nat→Prop}(hs:∀b,D b→D' b){b sz o:Nat}{es:List (List PV)}(h:PRE w (fun b=>¬D b) b sz o es):PRE w (fun b=>¬D' b) b sz o es :=
 PRE.stay ⟨Nat.le_refl _,fun _ _ _ _=>rfl,fun b _ h k=>h (hs b k)⟩ (fun _ _ h=>h) o es h
theorem GoneA.left(a:Ab φ H φ1 H1)(b:Ab φ1 H1 φ2 H2){k:Nat}(h:GoneA φ φ1 k):GoneA φ φ2 k:=by
 obtain ⟨o,l,p,g1,g2,g3⟩:=h;refine ⟨o,l,p,g1,g2,?_⟩;rcases b.ph o with e | ⟨e,_⟩
 ·rw [e]; exact g3
 ·exact e
theorem GoneA.right(a:Ab φ H φ1 H1){k:Nat}(h:GoneA φ1 φ2 k):GoneA φ φ2 k:=by
 obtain ⟨o,l,p,g1,g2,g3⟩:=h;rcases a.ph o with e | ⟨e,_⟩
 ·exact ⟨o,l,p,by rw [←e]; exact g1,g2,g3⟩
 ·rw [e] at g1; cases g1
theorem nil_pr{f:Fl}{sz:Nat}{es:List (List PV)}{v:Value}(hf:f = .nil)(h:PR w Y (.sl f sz es) v):PR w Y' (.sl f sz es) v:=by
 subst hf;simp only [PR,flOk] at h ⊢;obtain ⟨A,c,e,h1,h2,⟨h3,h4⟩,_⟩:=h;exact ⟨A,c,e,h1,h2,⟨h3,h4⟩,.inl (by omega)⟩
theorem absorb1_ok(hH:HR X φ H w){a:AV}{p:PV}{v:Value}(h:Qbp H a=some (p,H1))(ho:oneA a=true)(hv:VR w (YOf X φ) φ a v) :
  ∃φ1,Ab φ H φ1 H1∧HR X φ1 H1 w∧Ev φ w φ1 w∧oneP p=true∧(∀k,GoneA φ φ1 k→∃t cs,w.heap[k]?=some (.cells cs t (0,0)))∧PR w (fun b=>¬GoneA φ φ1 b) p v:=by
 unfold Qbp at h
 split at h
 ·simp only [Option.some.injEq,Prod.mk.injEq] at h; obtain ⟨rfl,rfl⟩:=h;simp only [VR] at hv;exact ⟨φ,Ab.refl _ _,hH,Ev.refl _ _,rfl,(fun k ⟨o,l,p,g1,_,g3⟩=>by rw [g1] at g3; cases g3),nil_pr rfl hv⟩
 ·rename_i p' _;cases hf:flatP p' with
  | false=>simp [hf] at h
  | true =>
   simp only [hf,cond_true,Option.some.injEq,Prod.mk.injEq] at h; obtain ⟨rfl,rfl⟩:=h;simp only [VR] at hv;exact ⟨φ,Ab.refl _ _,hH,Ev.refl _ _,by cases p'<;>simp_all [oneA,oneP],(fun k ⟨o,l,p,g1,_,g3⟩=>by rw [g1] at g3; cases g3),flatP_pr _ _ hf hv⟩
 ·rename_i o
  split at h
  ·rename_i sz es hg;cases hf:es.all flatPL with
   | false=>simp [hf] at h
   | true =>
    simp only [hf,cond_true,Option.some.injEq,Prod.mk.injEq] at h; obtain ⟨rfl,rfl⟩:=h;obtain ⟨z,l,hl,hO⟩:=hH.ob _ _ hg;have hz:z=false:=by simp only [OR] at hO; exact hO.1
    subst hz;simp only [VR] at hv;have hv:=hv.2.2 _ l hl; subst hv;simp only [OR] at hO;obtain ⟨_,h1,h2,h3,h4,h5⟩:=hO;refine ⟨φ.set o .dead,Ab.kill hl (Qbh hg),hH.kill hl,Ev.kill o (by rw [hl]; intro h; cases h),rfl,fun k ⟨o2,l2,p2,g1,g2,g3⟩=>?_,?_⟩
    ·by_cases e:o2=o
     ·subst e;rw [hl] at g1; cases g1;rcases h5 with ⟨h6,_⟩|⟨b,q,t,cs,hA,hg2,_⟩
      ·rw [h6] at g2; cases g2
      ·rw [hA] at g2; cases g2; exact ⟨t,cs,hg2⟩
     ·rw [Phi.set_ne e,g1] at g3; cases g3
    simp only [PR];refine ⟨l.addr 0,l.c,by rw [h1],by omega,h4,trivial,?_⟩;rcases h5 with ⟨_,h6⟩|⟨b,q,t,cs,hA,hg2,hs,hE,_⟩
    ·exact .inl (by omega)
    ·refine .inr ⟨b,q,by simp [Loc.addr,hA],fun hn=>hn ⟨o,l,q,hl,hA,Phi.set_self⟩,(Array.getElem?_eq_some_iff.1 hg2).1,PRE.flatY hf hE⟩
  ·cases h
 ·cases h
theorem absorbL_ok:∀{as:List AV} {φ:Phi} {H H1:Hp} {ps:List PV} {vs:List Value},HR X φ H w→Qbw H as=some (ps,H1)→VRL w (YOf X φ) φ as vs →
  ∃φ1,Ab φ H φ1 H1∧HR X φ1 H1 w∧Ev φ w φ1 w∧(∀k,GoneA φ φ1 k→∃t cs,w.heap[k]?=some (.cells cs t (0,0)))∧PRL w (fun b=>¬GoneA φ φ1 b) ps vs
 | [],φ,H,H1,ps,vs,hH,h,hv=>by
  simp only [Qbw,Option.some.injEq,Prod.mk.injEq] at h; obtain ⟨rfl,rfl⟩:=h;exact ⟨φ,Ab.refl _ _,hH,Ev.refl _ _,(fun k ⟨o,l,p,g1,_,g3⟩=>by rw [g1] at g3; cases g3),by simpa only [VRL,PRL] using hv⟩
 | a::as,φ,H,H1,ps,vs,hH,h,hv=>by
  simp only [VRL] at hv;obtain ⟨v,r,rfl,ho,hva,hr⟩:=hv;simp only [Qbw] at h
  split at h
  ·rename_i p H2 hp;obtain ⟨φ2,a2,hH2,ev2,ho2,hc2,hpr⟩:=absorb1_ok hH hp ho hva
   split at h
   ·rename_i qs H3 hps;simp only [Option.some.injEq,Prod.mk.injEq] at h; obtain ⟨rfl,rfl⟩:=h;obtain ⟨φ3,a3,hH3,ev3,hc3,hprs⟩:=absorbL_ok hH2 hps (VRL.stay ev2 X _ _ hr);refine ⟨φ3,a2.trans a3,hH3,ev2.trans ev3,fun k ⟨o,l,p,g1,g2,g3⟩=>?_,?_⟩
    ·rcases a2.ph o with e | ⟨e,_⟩
     ·exact hc3 k ⟨o,l,p,by rw [e]; exact g1,g2,g3⟩
     ·exact hc2 k ⟨o,l,p,g1,g2,e⟩
    simp only [PRL];exact ⟨v,r,rfl,ho2,PR.less (fun b hb=>hb.left a2 a3) hpr,PRL.less (fun b hb=>hb.right a2) hprs⟩
   ·cases h
  ·cases h
theorem Ab.fresh(a:Ab φ H φ1 H1){k:Nat}(h:φ k = .fresh):φ1 k = .fresh:=by
 rcases a.ph k with e | ⟨_,e⟩
 ·rw [e]; exact h
 ·exact absurd h e
theorem g_buildD{t n:Nat}{ps:Array (Nat×Operand)}{v:AV}{H':Hp}(hC:Qad P C)(hH:HR X φ H w)(hf:Free φ H nid)(hρ:∀x,VR w (YOf X φ) φ (ra x) (ρ x)) (h:Qcw C nid H t n (ps.toList.map fun p=>(p.1,ra p.2))=some (v,H')) :
  Good nid H X φ w v H' ((execOp ρ ⟨d,.buildSlice t n ps,ty,pos,af,g⟩).run P w):=by
 unfold Qcw at h
 split at h
 ·rename_i x hps
  split at h
  ·rename_i ti hti;have hT:=hC.ty t ti hti
   split at h
   ·rename_i e hk;have hu:=Qct hT hk
    split at h
    ·rename_i te hte;obtain ⟨ie,ze,hie,hse,_,hze,hzl⟩:=Qbm (hC.ty e te hte);cases hb:(Nat.ble te.size 16777216&&(!Nat.beq te.size 0&&x.cells.all oneA)) with
     | false=>simp [hb] at h
     | true =>
      simp only [hb,cond_true] at h;rw [Bool.and_eq_true,Bool.and_eq_true] at hb;have hb1:te.size≤16777216:=by simpa using hb.1
      have hb2:te.size≠0:=fun e=>by rw [e] at hb; simp at hb
      split at h
      ·rename_i qs H1 hab;cases hlq:Nat.beq qs.length te.size with
       | false=>simp [hlq] at h
       | true =>
        simp only [hlq,cond_true,Option.some.injEq,Prod.mk.injEq] at h; obtain ⟨rfl,rfl⟩:=h;rw [Nat.beq_eq] at hlq
        -- the one operand
        obtain ⟨y,hy,hxy⟩:∃y,ps = #[(0,y)]∧x=ra y:=by
         rcases ps with ⟨l⟩
         match l,hps with
         | [(i,y)],hps =>
          simp only [List.map_cons,List.map_nil,List.cons.injEq,Prod.mk.injEq,and_true] at hps;exact ⟨y,by rw [hps.1],hps.2.symm⟩
        subst hy hxy;have hvc:=vr_cells hb.2.2 (hρ y);obtain ⟨φ1,a1,hH1,ev1,hcell,hpl⟩:=absorbL_ok hH hab hvc;have hlv:=hpl.length;have hzl2:=tyOK_len (hC.ty e te hte);have hzs:ze.cells.size=te.size:=by rw [←hzl2,←(hzl w (YOf X φ)).length,Array.length_toList]
        have hcs:(ρ y).cells.size=te.size:=by rw [←Array.length_toList,hlv,hlq]
        have hrun:(execOp ρ ⟨d,.buildSlice t 1 #[(0,y)],ty,pos,af,g⟩).run P w = .ok (.value (.slice (some ⟨w.heap.size,0,none⟩) 1 1)) (w.alloc (.cells (ρ y).cells e)):=by
         refine x_buildSlice hu ?_;unfold builtSlice;simp only [hie,hze];rw [if_neg]
         ·rw [hse,zeros_eq hzs (by omega)];simp only [List.replicate_one,List.flatten_cons,List.flatten_nil,List.append_nil];have hmap:(Array.map (fun x:Nat×Operand=>(x.1,ρ x.2)) #[(0,y)]).toList=[(0,ρ y)]:=by simp
          rw [hmap];have:=fill_fold (ρ y).cells.toList 0 0 ze.cells.toList (by simp [hcs,hzs]);simp only [Instr.fill];rw [if_neg (by simp [hcs,hzs])];rw [←Array.foldl_toList,Array.toList_zipIdx];simp only [Nat.zero_mul,Nat.zero_add] at this ⊢;rw [this]
          congr 1
          apply Array.ext'
          simp [hzs,hcs]
         ·rw [hse]
          rintro (h | h)<;>omega
        let l:Loc:=⟨some (w.heap.size,0),1,1,te.size,GoneA φ φ1⟩
        have hgl:∀b,GoneA φ φ1 b→b<w.heap.size:=fun b ⟨o,l,p,g1,g2,_⟩=>(hH.out o l b p g1 (.inl g2)).2;obtain ⟨m1,m2⟩:=hH.merge a1 hf (w':=w.alloc (.cells (ρ y).cells e)) l (.drow te.size [qs]) rfl rfl ⟨rfl,Nat.le_refl _⟩ (by simp) (fun k hk _=>Below.heap_alloc w _ k hk)
         (fun b p' hb=>hb.elim (fun hA=>by cases hA; exact .inr ⟨Nat.le_refl _,by simp⟩) fun hD=>.inl (GoneA.gone hD)) (fun ev=>by
          simp only [OR];refine ⟨trivial,fun k hk=>by
           obtain ⟨t,cs,hg⟩:=hcell k hk;exact ⟨t,cs,by rw [Below.heap_alloc w _ k (hgl k hk)]; exact hg⟩,rfl,rfl,Nat.le_refl _,by show 1≤maxLen; unfold maxLen; omega,.inr ⟨w.heap.size,0,e,_,rfl,heap_alloc_new w _,?_,?_,fun hD=>Nat.lt_irrefl _ (hgl _ hD)⟩⟩
          ·show 0+1*te.size≤(ρ y).cells.size;omega
          ·have hst:Stay w (fun k=>¬GoneA φ φ1 k) (w.alloc (.cells (ρ y).cells e)) (fun k=>¬GoneA φ φ1 k):=⟨by simp,fun k hk _ _=>Below.heap_alloc w _ k hk,fun _ _ h=>h⟩;have:=PRL.stay hst _ _ hpl;show PRE _ (fun k=>¬GoneA φ φ1 k) _ _ _ [qs];refine PRE.of_flat (vss:=[(ρ y).cells.toList]) ?_ fun j v hj=>?_
           ·simp only [PRLL];exact ⟨_,_,rfl,hlq,this,rfl⟩
           ·simp only [World.cell?,heap_alloc_new];simp only [Nat.zero_add,Option.isSome_none,Bool.false_eq_true,if_false];simpa using hj)
        refine ⟨_,_,_,_,hrun,.inl rfl,?_,m1,m2,?_,fun k hk hfr=>by rw [Phi.set_ne hk]; exact a1.fresh hfr⟩
        ·simp only [VR];refine ⟨rfl,(by rw [Phi.set_self]; intro h; cases h),fun _ l' hl'=>?_⟩;rw [Phi.set_self] at hl'; cases hl';simp [Loc.addr,l]
        ·rw [←a1.len]; exact (Qar (by rw [a1.len]; exact hf.le)).1
      ·cases h
    ·cases h
   ·cases h
  ·cases h
 ·cases h

theorem dsrc{v:Value}{c b o sz:Nat}{news:List (List PV)}(hE:PRE w Y b sz o news)(hv:v = .slice (some ⟨b,o,none⟩) news.length c) :
  (Builtin.lenOf v).run P w = .ok news.length w∧∃vss,PRLL w Y sz news vss∧∀w2:World,w2.heap=w.heap→(Builtin.firstCells sz news.length v).run P w2 = .ok vss.flatten.toArray w2:=by
 subst hv;refine ⟨by simp [Builtin.lenOf],?_⟩;obtain ⟨vss,h1,h2⟩:=hE.flat;refine ⟨vss,h1,fun w2 hw=>?_⟩;refine run_firstCells_some w2 sz news.length _ _ c vss.flatten ?_ fun j u hj=>?_
 ·rw [Qby h1.size,h1.length]
 ·rw [Addr.add_mid,World.cell?_of_block (w:=w) (a:=⟨b,o+j,none⟩) (by rw [hw])];exact h2 j u hj
theorem srcTy_own{t1 o:Nat}(hC:Qad P C)(h:srcTy C t1 (.own o)=true):∃u,P.underlying t1=some u∧(∀k,u≠.int k):=by
 unfold srcTy at h
 split at h
 ·rename_i e; cases e
 ·cases hti:C.ty t1 with
  | none=>simp [hti] at h
  | some ti =>
   simp only [hti] at h
   split at h
   ·rename_i e hk;exact ⟨_,Qct (hC.ty t1 ti hti) hk,fun k h=>by cases h⟩
   ·cases h
theorem g_appendD{t t1 o2 sz2:Nat}{news:List (List PV)}{x y:Operand}{v:AV}{H':Hp}(hC:Qad P C)(hH:HR X φ H w)(hfr:Free φ H nid)(hy2:ra y = .own o2)(hg2:hget H o2=some (.drow sz2 news))(h:evAppendD C nid H t t1 (ra x) (ra y) o2 sz2 news=some (v,H'))(hx:VR w (YOf X φ) φ (ra x) (ρ x))(hy:VR w (YOf X φ) φ (ra y) (ρ y)) :
  Good nid H X φ w v H' ((execOp ρ ⟨d,.call { callee:=.builtin .append,args:=#[x,y],argTypes:=#[t,t1] },ty,pos,af,g⟩).run P w):=by
 unfold evAppendD at h
 split at h
 ·rename_i ti hti
  split at h
  ·rename_i e hk;have hu:=Qct (hC.ty t ti hti) hk
   split at h
   ·rename_i te hte;have hE:=hC.ty e te hte;cases hg1:(!(Nat.beq sz2 te.size&&srcTy C t1 (ra y))||Nat.beq te.size 0) with
    | true=>rw [hg1] at h; cases h
    | false =>
     rw [hg1,cond_false] at h;rw [Bool.or_eq_false_iff,Bool.not_eq_false',Bool.and_eq_true,Nat.beq_eq] at hg1;obtain ⟨⟨hsz,hst⟩,hz⟩:=hg1;have hpos:te.size≠0:=fun e=>by rw [e] at hz; simp at hz
     subst hsz;rw [hy2] at hst;obtain ⟨u1,hu1,hn1⟩:=srcTy_own hC hst;obtain ⟨z2,l2,hl2,hO2⟩:=hH.ob _ _ hg2;have hz2:z2=false:=by simp only [OR] at hO2; exact hO2.1
     subst hz2;rw [hy2] at hy;simp only [VR] at hy;have hey:=hy.2.2 _ l2 hl2;simp only [OR] at hO2;obtain ⟨_,k0,k1,k2,k3,k4,k5⟩:=hO2;have hD2:∀b,l2.D b→¬X b∧b<w.heap.size:=fun b hb=>hH.out o2 l2 b 0 hl2 (.inr hb)
     -- the new elements
     have src:news≠[]→(Builtin.lenOf (ρ y)).run P w = .ok news.length w∧∃vss,PRLL w (fun k=>¬l2.D k) te.size news vss∧∀w2:World,w2.heap=w.heap→(Builtin.firstCells te.size news.length (ρ y)).run P w2 = .ok vss.flatten.toArray w2:=fun hne=>by
      rcases k5 with ⟨_,k6⟩|⟨b,p,t',cs,hA,hg,hcs,hPE,_⟩
      ·exact absurd (List.length_eq_zero_iff.1 (by omega)) hne
      ·exact dsrc hPE (by rw [hey,k1]; simp [Loc.addr,hA]; rfl)
     split at h
     ·-- nothing ahead
      rename_i c0 cs0 sz0 hxv;generalize hnews:c0::cs0=news at *;have hne:news≠[]:=by rw [←hnews]; simp
      cases hfit:Qbg news.length te with
      | false=>simp [hfit] at h
      | true =>
       simp only [hfit,cond_true,Option.some.injEq,Prod.mk.injEq] at h; obtain ⟨rfl,rfl⟩:=h;rw [hxv] at hx;simp only [VR,PR,flOk] at hx;obtain ⟨A,c1,he,_,_,⟨rfl,rfl⟩,_⟩:=hx;obtain ⟨hlen,vss,hvss,hfc⟩:=src hne;have hm0:0<news.length:=List.length_pos_iff.2 hne;obtain ⟨ess,q1,q2⟩:=olds_of (P:=P) (w:=w) (Y:=fun k=>¬l2.D k) (te_size:=te.size) (es:=[]) (len:=0) (cap:=0) (A:=none) rfl (.inl rfl);obtain ⟨c,rest,h3,h4,h5,h6⟩:=run_app_grow (ty:=ty) (len:=0) (cap:=0) (A:=none) hu hE hu1 hn1 hlen (hfc w.drew rfl) (by omega) (by simpa using hfit) q2;have hrun:=x_append (x:=x) (y:=y) (d:=d) (ty:=ty) (pos:=pos) (af:=af) (g:=g) (ρ:=ρ) (t:=t) (t1:=t1) (by rw [he]; exact h6);have hlt2:=Qbh hg2
       let l':Loc:=⟨some (w.heap.size,0),news.length,c,te.size,l2.D⟩
       have a1:Ab φ H (φ.set o2 .dead) (hset H o2 none):=Ab.kill hl2 hlt2;obtain ⟨m1,m2⟩:=hH.merge a1 hfr (w':=w.drew.alloc (.cells ((ess.flatten++vss.flatten).toArray++rest) e)) l' (.drow te.size news) rfl rfl ⟨rfl,Nat.le_succ _⟩ (by simp) (fun k hk _=>Below.heap_alloc w.drew _ k hk)
        (fun b p' hb=>hb.elim (fun hA=>by cases hA; exact .inr ⟨Nat.le_refl _,by simp⟩) fun hD=>.inl ⟨o2,l2,0,hl2,.inr hD,Phi.set_self⟩) (fun ev=>by
         have hst:Stay w (fun k=>¬l2.D k) (w.drew.alloc (.cells ((ess.flatten++vss.flatten).toArray++rest) e)) (fun k=>¬l2.D k):=⟨by simp,fun k hk _ _=>Below.heap_alloc w.drew _ k hk,fun _ _ h=>h⟩;obtain ⟨r1,r2⟩:=PRE_new (w:=w.drew) (w0:=w) (n:=news.length) (t:=e) q1 hvss (by simp) (by simpa using h3) (by simpa using h5) hst;simp only [OR];refine ⟨trivial,fun k hk=>by
          obtain ⟨t,cs,hg⟩:=k0 k hk;exact ⟨t,cs,by rw [Below.heap_alloc w.drew _ k (hD2 k hk).2]; exact hg⟩,rfl,rfl,by simpa using h3,h4,.inr ⟨w.heap.size,0,e,_,rfl,heap_alloc_new w.drew _,?_,by simpa using r1,fun hD=>Nat.lt_irrefl _ (hD2 _ hD).2⟩⟩
         show 0+c*te.size≤_;rw [r2]; omega)
       refine ⟨_,_,_,_,hrun,.inl rfl,?_,m1,m2,Qbs hfr.le,fun k hk h=>by rw [Phi.set_ne hk]; exact a1.fresh h⟩;simp only [VR];refine ⟨rfl,(by rw [Phi.set_self]; intro h; cases h),fun _ l3 hl3=>?_⟩;rw [Phi.set_self] at hl3; cases hl3;simp [Loc.addr,l']
     ·-- behind others
      rename_i c0 cs0 o hxv;generalize hnews:c0::cs0=news at *;have hne:news≠[]:=by rw [←hnews]; simp
      split at h
      ·rename_i sz es ho;cases hb:(!(Nat.beq o o2)&&(Nat.beq sz te.size&&Qbg (es.length+news.length) te)) with
       | false=>rw [hb] at h; cases h
       | true =>
        rw [hb] at h;simp only [cond_true,Option.some.injEq,Prod.mk.injEq] at h; obtain ⟨rfl,rfl⟩:=h;rw [Bool.and_eq_true,Bool.and_eq_true,Nat.beq_eq] at hb;obtain ⟨hoo,rfl,hfit⟩:=hb;have hno:o≠o2:=fun e=>by subst e; simp at hoo
        obtain ⟨z,l,hl,hO⟩:=hH.ob _ _ ho;have hz:z=false:=by simp only [OR] at hO; exact hO.1
        subst hz;rw [hxv] at hx;simp only [VR] at hx;have he:=hx.2.2 _ l hl;simp only [OR] at hO;obtain ⟨_,h0,h1,h2,h3,h4,h5⟩:=hO;rw [h1] at he;obtain ⟨hlen,vss0,hvss0,hfc⟩:=src hne;have hvss:PRLL w (fun k=>¬(l.D k∨l2.D k)) te.size news vss0:=PRLL.stay ⟨Nat.le_refl _,fun _ _ _ _=>rfl,fun b _ h k=>h (.inr k)⟩ hvss0;have hvl:=hvss.length;have hlt:=Qbh ho;have hlt2:=Qbh hg2;have a1:Ab φ H ((φ.set o .dead).set o2 .dead) (hset (hset H o none) o2 none):=(Ab.kill hl hlt).trans (Ab.kill (by rw [Phi.set_ne (fun e=>hno e.symm)]; exact hl2) (by rw [Qv]; exact hlt2));have d1:((φ.set o .dead).set o2 .dead) o = .dead:=by rw [Phi.set_ne hno,Phi.set_self]
        have d2:((φ.set o .dead).set o2 .dead) o2 = .dead:=Phi.set_self;have hDl:∀b,(l.D b∨l2.D b)→b<w.heap.size:=fun b hb=>hb.elim (fun hb=>(hH.out o l b 0 hl (.inr hb)).2) fun hb=>(hD2 b hb).2;have gD:∀b,(l.D b∨l2.D b)→Gone φ ((φ.set o .dead).set o2 .dead) b:=fun b hb=>hb.elim (fun hb=>⟨o,l,0,hl,.inr hb,d1⟩) fun hb=>⟨o2,l2,0,hl2,.inr hb,d2⟩;have fin:∀{l':Loc} {wn:World} {vv:Value},(execOp ρ ⟨d,.call { callee:=.builtin .append,args:=#[x,y],argTypes:=#[t,t1] },ty,pos,af,g⟩).run P w = .ok (.value vv) wn→vv = .slice (l'.addr 0) l'.n l'.c→HR X (((φ.set o .dead).set o2 .dead).set nid (.at false l')) (hput (hset (hset H o none) o2 none) nid (.drow te.size (es++news))) wn→Ev φ w (((φ.set o .dead).set o2 .dead).set nid (.at false l')) wn →
          Good nid H X φ w (.own nid) (hput (hset (hset H o none) o2 none) nid (.drow te.size (es++news))) ((execOp ρ ⟨d,.call { callee:=.builtin .append,args:=#[x,y],argTypes:=#[t,t1] },ty,pos,af,g⟩).run P w):=fun {l' wn vv} hr hvv m1 m2=>by
         refine ⟨_,_,_,_,hr,.inl rfl,?_,m1,m2,?_,fun k hk h=>by rw [Phi.set_ne hk]; exact a1.fresh h⟩
         ·simp only [VR];refine ⟨by rw [hvv]; rfl,(by rw [Phi.set_self]; intro h; cases h),fun _ l3 hl3=>?_⟩;rw [Phi.set_self] at hl3; cases hl3;exact hvv
         ·have:=Qbs (H:=hset H o none) (o:=o2) (y:=none) (n:=nid) (x:=.drow te.size (es++news)) (by rw [Qv]; exact hfr.le);rw [Qv] at this; exact this
        have h00:∀k,(l.D k∨l2.D k)→∃t cs,w.heap[k]?=some (.cells cs t (0,0)):=fun k hk=>hk.elim (h0 k) (k0 k);have olds:es.length=0∨∃b q,l.addr 0=some ⟨b,q,none⟩∧PRE w (fun k=>¬(l.D k∨l2.D k)) b te.size q es:=by
         rcases h5 with ⟨_,h6⟩|⟨b,p,t',cs,hA,hg,hcs,hPE,_⟩
         ·exact .inl (by omega)
         ·exact .inr ⟨b,p,by simp [Loc.addr,hA],PRE.less (fun b hb=>.inl hb) hPE⟩
        rcases Nat.lt_or_ge l.c (es.length+news.length) with hroom | hroom
        ·obtain ⟨ess,q1,q2⟩:=olds_of (P:=P) (w:=w) (cap:=l.c) rfl olds;obtain ⟨c,rest,r3,r4,r5,r6⟩:=run_app_grow (ty:=ty) hu hE hu1 hn1 hlen (hfc w.drew rfl) hroom hfit q2
         let l':Loc:=⟨some (w.heap.size,0),es.length+news.length,c,te.size,fun k=>l.D k∨l2.D k⟩
         obtain ⟨m1,m2⟩:=hH.merge a1 hfr (w':=w.drew.alloc (.cells ((ess.flatten++vss0.flatten).toArray++rest) e)) l' (.drow te.size (es++news)) rfl rfl ⟨rfl,Nat.le_succ _⟩ (by simp) (fun k hk _=>Below.heap_alloc w.drew _ k hk)
          (fun b p' hb=>hb.elim (fun hA=>by cases hA; exact .inr ⟨Nat.le_refl _,by simp⟩) fun hD=>.inl (gD b hD)) (fun ev=>by
           have hst:Stay w (fun k=>¬(l.D k∨l2.D k)) (w.drew.alloc (.cells ((ess.flatten++vss0.flatten).toArray++rest) e)) (fun k=>¬(l.D k∨l2.D k)):=⟨by simp,fun k hk _ _=>Below.heap_alloc w.drew _ k hk,fun _ _ h=>h⟩;obtain ⟨s1,s2⟩:=PRE_new (w:=w.drew) (w0:=w) (n:=es.length+news.length) (t:=e) q1 hvss rfl r3 r5 hst;simp only [OR];refine ⟨trivial,fun k hk=>by
            obtain ⟨t,cs,hg⟩:=h00 k hk;exact ⟨t,cs,by rw [Below.heap_alloc w.drew _ k (hDl k hk)]; exact hg⟩,by simp [l'],rfl,r3,r4,.inr ⟨w.heap.size,0,e,_,rfl,heap_alloc_new w.drew _,?_,s1,fun hD=>Nat.lt_irrefl _ (hDl _ hD)⟩⟩
           show 0+c*te.size≤_;rw [s2]; omega)
         exact fin (l':=l') (x_append (by rw [he]; exact r6)) (by simp [Loc.addr,l']) m1 m2
        ·rcases h5 with ⟨_,h6⟩|⟨b,p,t',cs,hA,hg,hcs,hPE,hnD⟩
         ·have:0<news.length:=List.length_pos_iff.2 hne;omega
         ·have hmul:(es.length+news.length)*te.size≤l.c*te.size:=Nat.mul_le_mul_right _ hroom;have hfl:=Qby hvss.size;rw [hvl] at hfl;have hmul2:(es.length+news.length)*te.size=es.length*te.size+news.length*te.size:=Nat.add_mul _ _ _;have hth:w.there b (p+es.length*te.size) vss0.flatten.length:=fun j hj=>by
           have hj':p+es.length*te.size+j<cs.size:=by omega
           constructor
           ·simp [World.cell?,hg,hj']
           ·simp [World.frozen?,hg]
          have hrun:=run_app_room (ty:=ty) hu hE hu1 hn1 hlen (hfc w rfl) (A:=some ⟨b,p,none⟩) (len:=es.length) (cap:=l.c) hroom (.inr ⟨b,p,rfl,hth,hvss.one,rfl⟩);have hvx:ρ x = .slice (some ⟨b,p,none⟩) es.length l.c:=by rw [he]; simp [Loc.addr,hA]
          obtain ⟨f1,f2,f3,f4,f5⟩:=Qbl b vss0.flatten (p+es.length*te.size) w
          let l':Loc:=⟨some (b,p),es.length+news.length,l.c,te.size,fun k=>l.D k∨l2.D k⟩
          obtain ⟨cs',hg',hcs'⟩:=setCells_size (vs:=vss0.flatten) (o:=p+es.length*te.size) hg (by omega);have hnb:¬(l.D b∨l2.D b):=fun hb=>hb.elim hnD fun hb=>hno (hH.inj o o2 l l2 b p 0 hl hl2 (.inl hA) (.inr hb));obtain ⟨m1,m2⟩:=hH.merge a1 hfr (w':=w.setCells b (p+es.length*te.size) vss0.flatten) l' (.drow te.size (es++news)) f1 f2 f3 (by omega) (fun k _ hk=>f5 k fun e=>hk ⟨o,l,p,hl,.inl (by rw [hA,e]),d1⟩)
           (fun b' p' hb=>hb.elim (fun hA'=>by cases hA'; exact .inl ⟨o,l,p,hl,.inl hA,d1⟩) fun hD=>.inl (gD b' hD)) (fun ev=>by
            have hst:Stay w (fun k=>¬(l.D k∨l2.D k)) (w.setCells b (p+es.length*te.size) vss0.flatten) (fun k=>¬(l.D k∨l2.D k)):=⟨by omega,fun k hk hn _=>f5 k fun e=>hnb (by rw [←e]; exact Classical.not_not.1 hn),fun _ _ h=>h⟩;have hst:=PRE_store (i:=es.length) hg (PRE.less (fun b hb=>.inl hb) hPE) hvss (Nat.le_refl _) (by omega) hst;simp only [List.take_length] at hst;rw [List.drop_eq_nil_of_le (by omega),List.append_nil] at hst;simp only [OR];exact ⟨trivial,fun k hk=>by
             obtain ⟨t,cs,hg⟩:=h00 k hk;exact ⟨t,cs,by rw [f5 k fun e=>hnb (by rw [←e]; exact hk)]; exact hg⟩,by simp [l'],rfl,hroom,h4,.inr ⟨b,p,t',cs',rfl,hg',by rw [hcs']; exact hcs,hst,hnb⟩⟩)
          exact fin (l':=l') (x_append (by rw [hvx]; exact hrun)) (by simp [Loc.addr,l']) m1 m2
      ·cases h
     ·cases h
   ·cases h
  ·cases h
 ·cases h
theorem g_appendS{t t1:Nat}{x y:Operand}{v:AV}{H':Hp}(hC:Qad P C)(hH:HR X φ H w)(hfr:Free φ H nid)(h:Qbv C nid H t t1 (ra x) (ra y)=some (v,H'))(hx:VR w (YOf X φ) φ (ra x) (ρ x))(hy:VR w (YOf X φ) φ (ra y) (ρ y)) :
  Good nid H X φ w v H' ((execOp ρ ⟨d,.call { callee:=.builtin .append,args:=#[x,y],argTypes:=#[t,t1] },ty,pos,af,g⟩).run P w):=by
 unfold Qbv at h
 split at h
 ·rename_i o2 sz2 news hd;have hd2:ra y = .own o2∧hget H o2=some (.drow sz2 news):=by
   unfold drowOf at hd
   split at hd
   ·rename_i o e
    split at hd
    ·rename_i sz es hg;simp only [Option.some.injEq,Prod.mk.injEq] at hd; obtain ⟨rfl,rfl,rfl⟩:=hd;exact ⟨e,hg⟩
    ·cases hd
   ·cases hd
  cases hi:isDrow H (ra x) with
  | true =>
   rw [hi,cond_true] at h;exact g_appendD hC hH hfr hd2.1 hd2.2 h hx hy
  | false =>
   rw [hi,cond_false] at h;obtain ⟨φ1,k1,k2,k3⟩:=meltO_ok hH o2;exact Good.pre k2 k3 (g_append hC k1 (k3.free hfr) h (VR.stay k2 X _ _ hx) (VR.stay k2 X _ _ hy))
 ·exact g_append hC hH hfr h hx hy
theorem g_buildSlice{t n:Nat}{ps:Array (Nat×Operand)}{v:AV}{H':Hp}(hC:Qad P C)(hH:HR X φ H w)(hf:Free φ H nid)(hρ:∀x,VR w (YOf X φ) φ (ra x) (ρ x))(h:Ql C nid ra H (.buildSlice t n ps)=some (v,H')) :
  Good nid H X φ w v H' ((execOp ρ ⟨d,.buildSlice t n ps,ty,pos,af,g⟩).run P w):=by
 simp only [Ql,evBuildS] at h
 split at h
 ·rename_i r hr;obtain rfl:=Option.some.inj h;cases hd:C.deep t with
  | false=>rw [hd] at hr; cases hr
  | true =>
   rw [hd,cond_true] at hr;exact g_buildD hC hH hf hρ hr
 ·exact g_buildP hC hH hf hρ h
end
end Go.Proofs.Ytbgjlpdeoljmiaa
namespace Go.Proofs.Ytbgjlpdeoljmiaa
set_option linter.unusedSimpArgs false
set_option linter.unusedVariables false
open Go.RowKit
section
variable {P:Program} {C:Cfg} {w w':World} {Y Y' X:Nat→Prop} {φ:Phi} {H:Hp}
variable {nid:Nat} {ρ:Operand→Value} {ra:Operand→AV} {d:Option Tmp} {ty:TypeId} {pos:String} {af:Array Edge} {g:Option (Nat×Bool)}
theorem good_u{v:AV}{H':Hp}{r:Result Next}(hH:HR X φ H w)(h:H'=H∧∃u,r = .ok (.value u) w∧VR w (YOf X φ) φ v u):Good nid H X φ w v H' r:=by
 obtain ⟨rfl,u,h1,h2⟩:=h;exact Qcj h1 h2 hH
theorem map_h{α β:Type}{o:Option α}{H H':β}{v:α} (h:(o.map fun v=>(v,H))=some (v,H')):o=some v∧H'=H:=by
 cases o with
 | none=>simp at h
 | some a=>simp at h; exact ⟨by rw [h.1],h.2.symm⟩
theorem g_pure(hC:Qad P C)(hH:HR X φ H w)(hf:Free φ H nid)(hρ:∀x,VR w (YOf X φ) φ (ra x) (ρ x)){op:Op}{v:AV}{H':Hp}(h:Ql C nid ra H op=some (v,H')) :
  Good nid H X φ w v H' ((execOp ρ ⟨d,op,ty,pos,af,g⟩).run P w):=by
 cases op with
 | move x=>simp only [Ql,Option.some.injEq,Prod.mk.injEq] at h; obtain ⟨rfl,rfl⟩:=h; exact Qcj (x_move rfl) (hρ x) hH
 | assign x=>simp only [Ql,Option.some.injEq,Prod.mk.injEq] at h; obtain ⟨rfl,rfl⟩:=h; exact Qcj (x_assign rfl) (hρ x) hH
 | pick c x y=>exact good_u hH (g_pick hρ h)
 | alloc e =>
  simp only [Ql] at h
  split at h
  ·rename_i ti hti;simp only [Option.some.injEq,Prod.mk.injEq] at h; obtain ⟨rfl,rfl⟩:=h;exact g_alloc hC hH hf hti
  ·cases h
 | box e x =>
  simp only [Ql] at h;cases hb:(ra x).cells.all oneA with
  | false=>simp [hb] at h
  | true =>
   simp only [hb,cond_true,Option.some.injEq,Prod.mk.injEq] at h; obtain ⟨rfl,rfl⟩:=h;exact g_box hH hf (hρ x) hb
 | build t ps=>exact good_u hH (g_build hC hρ h)
 | buildSlice t n ps=>exact g_buildSlice hC hH hf hρ h
 | load t p =>
  simp only [Ql] at h;obtain ⟨h1,rfl⟩:=map_h h;exact good_u hH ⟨rfl,g_load hC hH h1 (hρ p)⟩
 | store t p x =>
  simp only [Ql,Option.map_eq_some_iff,Prod.mk.injEq] at h;obtain ⟨H1,h1,rfl,rfl⟩:=h;exact g_store hC hH h1 (hρ p) (hρ x)
 | nilCheck x=>exact good_u hH (g_nilCheck hH hρ h)
 | binOp op t x y t' =>
  simp only [Ql] at h;obtain ⟨h1,rfl⟩:=map_h h;exact good_u hH ⟨rfl,evBin_ok hC hH h1 (hρ x) (hρ y)⟩
 | unOp op t x =>
  simp only [Ql] at h;obtain ⟨h1,rfl⟩:=map_h h;exact good_u hH ⟨rfl,g_un h1 (hρ x)⟩
 | convert s t x=>exact g_convert hC hH hρ h
 | makeFunc fn first cs=>exact good_u hH (g_makeFunc hρ h)
 | makeSlice t l c=>exact g_makeSlice hC hH hf hρ h
 | slice t x lo hi mx =>
  simp only [Ql] at h;cases hb:isBp (ra x) with
  | true=>rw [hb,cond_true] at h; exact g_sliceA hC hH hρ h
  | false =>
   rw [hb,cond_false] at h;obtain ⟨h1,rfl⟩:=map_h h;exact good_u hH ⟨rfl,g_slice hC hH hρ h1⟩
 | fieldAddr t x f=>exact good_u hH (g_fieldAddr hC hH hρ h)
 | field t x f=>exact good_u hH (g_field hC hρ h)
 | indexAddr t x i =>
  simp only [Ql] at h;obtain ⟨h1,rfl⟩:=map_h h;exact good_u hH ⟨rfl,g_indexAddr hC hH h1 (hρ x) (hρ i)⟩
 | index t x i =>
  simp only [Ql] at h;obtain ⟨h1,rfl⟩:=map_h h;exact good_u hH ⟨rfl,g_index hC h1 (hρ x) (hρ i)⟩
 | extract t i=>exact good_u hH (g_extract hρ h)
 | call c =>
  obtain ⟨callee,⟨args⟩,⟨ts⟩⟩:=c;simp only [Ql] at h
  split at h
  ·rename_i b hb;unfold Qax at h
   split at h
   ·rename_i t x hargs;obtain ⟨a,rfl,rfl⟩:=List.map_eq_singleton_iff.1 hargs;cases hn:lenA C H t (ra a) with
    | none=>simp [hn] at h
    | some n =>
     simp [hn] at h; obtain ⟨rfl,rfl⟩:=h;exact Qcj (g_len hC hH hn (hρ a)) (by simp only [VR,PR]) hH
   ·rename_i t t1 x y hargs;obtain ⟨a,l,rfl,rfl,hl2⟩:=List.map_eq_cons_iff.1 hargs;obtain ⟨b,rfl,rfl⟩:=List.map_eq_singleton_iff.1 hl2;exact g_appendS hC hH hf h (hρ a) (hρ b)
   ·rename_i t t1 x y hargs;obtain ⟨a,l,rfl,rfl,hl2⟩:=List.map_eq_cons_iff.1 hargs;obtain ⟨b,rfl,rfl⟩:=List.map_eq_singleton_iff.1 hl2;exact g_copy hC hH h (hρ a) (hρ b)
   ·rename_i t x hargs;obtain ⟨a,rfl,rfl⟩:=List.map_eq_singleton_iff.1 hargs;exact g_clear hC hH h (hρ a)
   ·obtain ⟨h1,rfl⟩:=map_h h;exact good_u hH ⟨rfl,g_minmax (b:=true) hρ (by simpa using h1)⟩
   ·obtain ⟨h1,rfl⟩:=map_h h;exact good_u hH ⟨rfl,g_minmax (b:=false) hρ (by simpa using h1)⟩
   ·cases h
  ·cases h
 | makeMap t r =>
  cases r with
  | some _=>simp [Ql] at h
  | none =>
   simp only [Ql,Option.some.injEq,Prod.mk.injEq] at h; obtain ⟨rfl,rfl⟩:=h;exact g_makeMap hH hf
 | lookup t x k ok =>
  simp only [Ql] at h;obtain ⟨h1,rfl⟩:=map_h h;exact good_u hH ⟨rfl,g_lookup hC hH h1 (hρ x) (hρ k)⟩
 | mapUpdate t m k x =>
  simp only [Ql,Option.map_eq_some_iff,Prod.mk.injEq] at h;obtain ⟨H1,h1,rfl,rfl⟩:=h;exact g_mapUpdate hC hH (.inl rfl) h1 hρ
 | insert t m k x =>
  simp only [Ql,Option.map_eq_some_iff,Prod.mk.injEq] at h;obtain ⟨H1,h1,rfl,rfl⟩:=h;exact g_mapUpdate hC hH (.inr rfl) h1 hρ
 | mapEntry t m k=>exact g_mapEntry hC hH h hρ
 | entryStore t m s x =>
  simp only [Ql,Option.map_eq_some_iff,Prod.mk.injEq] at h;obtain ⟨H1,h1,rfl,rfl⟩:=h;exact g_entryStore hH h1 hρ
 | range t x=>exact g_range hC hH hf h (hρ x)
 | entry x =>
  simp only [Ql] at h;obtain ⟨h1,rfl⟩:=map_h h;exact good_u hH ⟨rfl,g_entry hH h1 (hρ x)⟩
 | _=>simp [Ql] at h
end
end Go.Proofs.Ytbgjlpdeoljmiaa
namespace Go.Proofs.Ytbgjlpdeoljmiaa
set_option linter.unusedSimpArgs false
set_option linter.unusedVariables false
open Go.RowKit
section
variable {P:Program} {w w':World} {Y Y' X:Nat→Prop} {φ φ2:Phi} {H H':Hp} {F:Nat}
theorem Qcv{x:Option Ob}{H:Hp} : (∀o,hget (x::H) (o+1)=hget H o)∧hget (x::H) 0=x:=by
 constructor
 ·intro o; simp [hget]
 ·cases x<;>simp [hget]
theorem hget_mask:∀(H:Hp)(i o:Nat),hget (maskH F i H) o=if bit F (i+o)=true then hget H o else none
 | [],i,o=>by simp [maskH,hget]
 | x::r,i,0=>by
  simp only [maskH,Qcv.2,Nat.add_zero];cases bit F i<;>simp
 | x::r,i,o+1=>by
  simp only [maskH,Qcv.1];rw [hget_mask r (i+1) o,show i+1+o=i+(o+1) from by omega]
theorem length_mask:∀(H:Hp)(i:Nat),(maskH F i H).length=H.length
 | [],_=>rfl
 | _::r,i=>by simp [maskH,length_mask r (i+1)]
theorem hget_patch:∀(H H':Hp)(i o:Nat),H.length≤H'.length→hget (Qay F i H H') o=if o<H.length∧bit F (i+o)=false then hget H o else hget H' o
 | [],H',i,o,_=>by simp [Qay]
 | x::r,[],i,o,h=>by simp at h
 | x::r,y::r',i,0,h=>by
  simp only [Qay,Qcv.2,Nat.add_zero];cases bit F i<;>simp
 | x::r,y::r',i,o+1,h=>by
  simp only [Qay,Qcv.1];rw [hget_patch r r' (i+1) o (by simpa using h),show i+1+o=i+(o+1) from by omega];simp only [List.length_cons,Nat.succ_lt_succ_iff,Nat.add_lt_add_iff_right]
theorem Qcc:∀(H H':Hp)(i:Nat),H.length≤H'.length→(Qay F i H H').length=H'.length
 | [],H',_,_=>rfl
 | x::r,[],_,h=>by simp at h
 | x::r,y::r',i,h=>by simp [Qay,Qcc r r' (i+1) (by simpa using h)]
theorem objs_at{n:Nat} : ∀{H:Hp},Qbu F n H=true→∀{o:Nat} {x:Ob},hget H o=some x→inF F n (obRefs x)=true
 | [],_,o,x,hx=>by simp [hget] at hx
 | y::r,h,0,x,hx=>by
  rw [Qcv.2] at hx; subst hx;simp only [Qbu,Bool.and_eq_true] at h; exact h.1
 | y::r,h,o+1,x,hx=>by
  rw [Qcv.1] at hx;simp only [Qbu,Bool.and_eq_true] at h; exact objs_at h.2 hx
def Re(φ φ2:Phi)(o:Nat):Prop:=(φ o≠.fresh→φ2 o≠.fresh)∧∀z l,φ2 o = .at z l→φ o = .at z l
theorem Re.at{o:Nat}{p:Loc→Prop}(h:Re φ φ2 o)(hp:φ o≠.fresh∧∀z l,φ o = .at z l→p l):φ2 o≠.fresh∧∀z l,φ2 o = .at z l→p l:=⟨h.1 hp.1,fun z l e=>hp.2 z l (h.2 z l e)⟩
mutual
theorem VR.re:∀(a:AV)(v:Value),(∀o∈refD a,Re φ φ2 o)→VR w Y φ a v→VR w Y φ2 a v
 | .pl p,v,_,h=>by simp only [VR] at h ⊢; exact h
 | .un,_,_,_=>by simp only [VR]
 | .agg cs,v,hr,h=>by
  simp only [VR] at h ⊢;obtain ⟨vs,e,hl⟩:=h;exact ⟨vs,e,VRL.re cs vs (by simpa only [refD] using hr) hl⟩
 | .tup cs,v,hr,h=>by
  simp only [VR] at h ⊢;obtain ⟨vs,e,hl⟩:=h;exact ⟨vs,e,VRT.re cs vs (by simpa only [refD] using hr) hl⟩
 | .clo f cs,v,hr,h=>by
  simp only [VR] at h ⊢;obtain ⟨vs,e,hl⟩:=h;exact ⟨vs,e,VRT.re cs vs (by simpa only [refD] using hr) hl⟩
 | .own o,v,hr,h=>by simp only [VR] at h ⊢; exact ⟨h.1,(hr o (by simp [refD])).at h.2⟩
 | .vw o _ _,v,hr,h=>by simp only [VR] at h ⊢; exact ⟨h.1,(hr o (by simp [refD])).at h.2⟩
 | .bp o _,v,hr,h=>by simp only [VR] at h ⊢; exact ⟨h.1,(hr o (by simp [refD])).at h.2⟩
 | .ep o _ _,v,hr,h=>by simp only [VR] at h ⊢; exact ⟨h.1,(hr o (by simp [refD])).at h.2⟩
 | .ip cs i,v,_,h=>by simp only [VR] at h ⊢; exact h
 | .mp o,v,hr,h=>by simp only [VR] at h ⊢; exact ⟨h.1,(hr o (by simp [refD])).at h.2⟩
 | .it o,v,hr,h=>by simp only [VR] at h ⊢; exact ⟨h.1,(hr o (by simp [refD])).at h.2⟩
 | .yl o,v,hr,h=>by simp only [VR] at h ⊢; exact ⟨h.1,(hr o (by simp [refD])).at h.2⟩
theorem VRL.re:∀(cs:List AV)(vs:List Value),(∀o∈Qag cs,Re φ φ2 o)→VRL w Y φ cs vs→VRL w Y φ2 cs vs
 | [],_,_,h=>by simpa only [VRL] using h
 | c::cs,vs,hr,h=>by
  simp only [VRL] at h ⊢;obtain ⟨v,r,e,ho,hc,hl⟩:=h;exact ⟨v,r,e,ho,VR.re c v (fun o ho=>hr o (by simp only [Qag]; exact List.mem_append_left _ ho)) hc,VRL.re cs r (fun o ho=>hr o (by simp only [Qag]; exact List.mem_append_right _ ho)) hl⟩
theorem VRT.re:∀(cs:List AV)(vs:List Value),(∀o∈Qag cs,Re φ φ2 o)→VRT w Y φ cs vs→VRT w Y φ2 cs vs
 | [],_,_,h=>by simpa only [VRT] using h
 | c::cs,vs,hr,h=>by
  simp only [VRT] at h ⊢;obtain ⟨v,r,e,hc,hl⟩:=h;exact ⟨v,r,e,VR.re c v (fun o ho=>hr o (by simp only [Qag]; exact List.mem_append_left _ ho)) hc,VRT.re cs r (fun o ho=>hr o (by simp only [Qag]; exact List.mem_append_right _ ho)) hl⟩
end
theorem refDL_pl:∀es:List PV,Qag (es.map AV.pl)=[]
 | []=>rfl
 | p::r=>by rw [List.map_cons,Qag,refDL_pl r]; rfl
theorem refDL_tail(es:List PV):∀cs:List AV,Qag (cs++es.map AV.pl)=Qag cs
 | []=>refDL_pl es
 | c::r=>by rw [List.cons_append,Qag,Qag,refDL_tail es r]
theorem OR.re{z:Bool}{l:Loc} : ∀{x:Ob},(∀o∈obRefs x,Re φ φ2 o)→OR w Y φ z l x→OR w Y φ2 z l x
 | .box t cs,hr,h=>by
  simp only [OR] at h ⊢;obtain ⟨hz,b,vs,hA,hg,hv⟩:=h;exact ⟨hz,b,vs,hA,hg,VRL.re cs vs hr hv⟩
 | .drow sz es,hr,h=>by simpa only [OR] using h
 | .abox t cs es,hr,h=>by
  simp only [OR] at h ⊢;obtain ⟨hz,b,vs,hA,hg,hv⟩:=h;exact ⟨hz,b,vs,hA,hg,VRL.re _ vs (by rw [refDL_tail]; exact hr) hv⟩
 | .lp c st pend cs,hr,h=>by
  simp only [OR] at h ⊢;obtain ⟨hz,b,fn,d,vs,hA,hg,hv⟩:=h;exact ⟨hz,b,fn,d,vs,hA,hg,VRT.re cs vs hr hv⟩
 | .row _ _ _,_,h=>by simp only [OR] at h ⊢; exact h
 | .brow _ _,_,h=>by simp only [OR] at h ⊢; exact h
 | .map _,_,h=>by simp only [OR] at h ⊢; exact h
 | .iter o n seen,hr,h=>by
  simp only [OR] at h ⊢;obtain ⟨hz,b,hA,hn,hm⟩:=h;have:=(hr o (by simp [obRefs])).at (p:=fun lo=>∃m,lo.A=some (m,0)∧w.heap[b]?=some (.mapIter (some m) n seen.toArray n)) ⟨hn,hm⟩;exact ⟨hz,b,hA,this.1,this.2⟩
def Phi.cut(φ:Phi)(F:Nat):Phi:=fun o=>match φ o with
 | .fresh=>.fresh
 | p=>bif bit F o then p else .dead
def cutX(X:Nat→Prop)(φ:Phi)(F:Nat):Nat→Prop:=fun b=>X b∨∃o l p,φ o = .at false l∧l.has b p∧bit F o=false
theorem cut_re(o:Nat):Re φ (φ.cut F) o:=by
 unfold Re Phi.cut;cases φ o with
 | fresh=>exact ⟨fun h=>(h rfl).elim,fun z l h=>by cases h⟩
 | dead=>cases bit F o<;>exact ⟨fun _ h=>(by cases h),fun z l h=>(by cases h)⟩
 | «at» z l=>cases bit F o<;>exact ⟨fun _ h=>(by cases h),fun z' l' h=>(by first | exact h | cases h)⟩
theorem cut_in{o:Nat}(h:bit F o=true):φ.cut F o=φ o:=by
 unfold Phi.cut; rw [h]; cases φ o<;>rfl
theorem cut_out{o:Nat}(h:bit F o=false):φ.cut F o = .fresh∨φ.cut F o = .dead:=by
 unfold Phi.cut; rw [h]; cases φ o<;>simp
theorem cut_at{o:Nat}{z:Bool}{l:Loc}(h:φ.cut F o = .at z l):φ o = .at z l∧bit F o=true:=by
 refine ⟨(cut_re o).2 z l h,?_⟩;cases hb:bit F o with
 | true=>rfl
 | false=>rcases cut_out (φ:=φ) hb with e | e<;>rw [e] at h<;>cases h
theorem cut_Y:YOf (cutX X φ F) (φ.cut F)=YOf X φ:=by
 funext b
 apply propext
 constructor
 ·rintro ((h | ⟨o,l,p,h1,h2,_⟩) | ⟨o,l,p,h1,h2⟩)
  ·exact .inl h
  ·exact .inr ⟨o,l,p,h1,h2⟩
  ·exact .inr ⟨o,l,p,(cut_at h1).1,h2⟩
 ·rintro (h | ⟨o,l,p,h1,h2⟩)
  ·exact .inl (.inl h)
  ·cases hb:bit F o with
   | true=>exact .inr ⟨o,l,p,by rw [cut_in hb]; exact h1,h2⟩
   | false=>exact .inl (.inr ⟨o,l,p,h1,h2,hb⟩)
theorem HR.cut(h:HR X φ H w):HR (cutX X φ F) (φ.cut F) (maskH F 0 H) w where
 fresh o ho:=by
  rw [length_mask] at ho;have:=h.fresh o ho;unfold Phi.cut; rw [this]
 live o z l ho:=by
  obtain ⟨h1,h2⟩:=cut_at ho;obtain ⟨x,hx⟩:=h.live o z l h1;exact ⟨x,by rw [hget_mask,Nat.zero_add,if_pos h2]; exact hx⟩
 ob o x hx:=by
  rw [hget_mask,Nat.zero_add] at hx
  split at hx
  ·rename_i hb;obtain ⟨z,l,h1,h2⟩:=h.ob o x hx;exact ⟨z,l,by rw [cut_in hb]; exact h1,by rw [cut_Y]; exact OR.re (fun k _=>cut_re k) h2⟩
  ·cases hx
 inj o o' l l' b p p' h1 h2:=h.inj o o' l l' b p p' (cut_at h1).1 (cut_at h2).1
 out o l b p h1 h2:=by
  obtain ⟨k1,k2⟩:=cut_at h1;obtain ⟨k3,k4⟩:=h.out o l b p k1 h2;refine ⟨?_,k4⟩
  rintro (hx | ⟨o2,l2,p2,m1,m2,m3⟩)
  ·exact k3 hx
  ·have:=h.inj o o2 l l2 b p p2 k1 m1 h2 m2;subst this; rw [k2] at m3; cases m3
 xlt:=⟨fun b hb=>by
  rcases hb with hb | ⟨o,l,p,h1,h2,_⟩
  ·exact h.xlt b hb
  ·exact (h.out o l b p h1 h2).2,h.xlt.tab.sub fun b ⟨o,l,p,h1,h2⟩=>⟨o,l,p,(cut_at h1).1,h2⟩⟩
def joinPhi(φ φ':Phi)(n F:Nat):Phi:=fun o=>if o<n∧bit F o=false then φ o else φ' o
theorem Qcx{n o:Nat}{φ':Phi}(h:o<n∧bit F o=false):joinPhi φ φ' n F o=φ o:=by unfold joinPhi; rw [if_pos h]
theorem join_in{n o:Nat}{φ':Phi}(h:¬(o<n∧bit F o=false)):joinPhi φ φ' n F o=φ' o:=by unfold joinPhi; rw [if_neg h]
theorem uncut{φ':Phi}{w1:World}(h:HR X φ H w)(h':HR (cutX X φ F) φ' H' w1)(ev:Ev (φ.cut F) w φ' w1)(hlen:H.length≤H'.length)(hfr:∀k,k<H.length→φ.cut F k = .fresh→φ' k = .fresh)(hob:Qbu F H.length H'=true) :
  HR X (joinPhi φ φ' H.length F) (Qay F 0 H H') w1∧Ev φ w (joinPhi φ φ' H.length F) w1∧YOf X (joinPhi φ φ' H.length F)=YOf (cutX X φ F) φ'∧(∀k,k<H.length→φ k = .fresh→joinPhi φ φ' H.length F k = .fresh)∧∀o,bit F o=true∨H.length≤o→joinPhi φ φ' H.length F o=φ' o:=by
 -- outside the part the call's map tells nothing
 have hout:∀o,o<H.length∧bit F o=false→∀z l,φ' o≠.at z l:=by
  intro o ho z l e;rcases cut_out (φ:=φ) ho.2 with h1 | h1
  ·rw [hfr o ho.1 h1] at e; cases e
  ·rcases ev.ids o (by rw [h1]; intro k; cases k) with h2 | h2 | ⟨l2,h2,_⟩
   ·rw [h2,h1] at e; cases e
   ·rw [h2] at e; cases e
   ·rw [h1] at h2; cases h2
 have hin:∀o,bit F o=true∨H.length≤o→joinPhi φ φ' H.length F o=φ' o:=fun o ho=>join_in fun hc=>by
  rcases ho with ho | ho
  ·rw [hc.2] at ho; cases ho
  ·omega
 have hY:YOf X (joinPhi φ φ' H.length F)=YOf (cutX X φ F) φ':=by
  funext b
  apply propext
  constructor
  ·rintro (hx | ⟨o,l,p,h1,h2⟩)
   ·exact .inl (.inl hx)
   ·by_cases hc:o<H.length∧bit F o=false
    ·rw [Qcx hc] at h1; exact .inl (.inr ⟨o,l,p,h1,h2,hc.2⟩)
    ·rw [join_in hc] at h1; exact .inr ⟨o,l,p,h1,h2⟩
  ·rintro ((hx | ⟨o,l,p,h1,h2,h3⟩) | ⟨o,l,p,h1,h2⟩)
   ·exact .inl hx
   ·exact .inr ⟨o,l,p,by rw [Qcx ⟨h.lt h1,h3⟩]; exact h1,h2⟩
   ·refine .inr ⟨o,l,p,?_,h2⟩
    by_cases hc:o<H.length∧bit F o=false
    ·exact absurd h1 (hout o hc _ _)
    ·rw [join_in hc]; exact h1
 have hcb:∀b,blkOf (φ.cut F) b→blkOf φ b:=fun b ⟨o,l,p,h1,h2⟩=>⟨o,l,p,(cut_at h1).1,h2⟩;have ev2:Ev φ w (joinPhi φ φ' H.length F) w1:=by
  refine ⟨ev.os,ev.tape,ev.output,ev.size,fun b hb hn=>ev.heap b hb fun hc=>hn (hcb b hc),fun b hb hc=>?_,fun o ho=>?_⟩
  ·obtain ⟨o,l,p,h1,h2⟩:=hc
   by_cases hc:o<H.length∧bit F o=false
   ·rw [Qcx hc] at h1; exact ⟨o,l,p,h1,h2⟩
   ·rw [join_in hc] at h1; exact hcb b (ev.blk b hb ⟨o,l,p,h1,h2⟩)
  ·by_cases hc:o<H.length∧bit F o=false
   ·rw [Qcx hc]; exact .inl rfl
   ·rw [join_in hc];have hb:bit F o=true:=by
     cases hb:bit F o with
     | true=>rfl
     | false =>
      refine absurd (h.fresh o ?_) ho;rcases Nat.lt_or_ge o H.length with h1 | h1
      ·exact absurd ⟨h1,hb⟩ hc
      ·exact h1
    have:=ev.ids o (by rw [cut_in hb]; exact ho);rw [cut_in hb] at this;exact this
 refine ⟨?_,ev2,hY,fun k hk e=>?_,hin⟩
 ·refine ⟨fun o ho=>?_,fun o z l ho=>?_,fun o x hx=>?_,fun o o' l l' b p p' h1 h2 hA hA'=>?_,fun o l b p h1 hA=>?_,⟨fun b hb=>Nat.lt_of_lt_of_le (h.xlt b hb) ev.size,h.xlt.tab.ev ev2⟩⟩
  ·rw [Qcc _ _ _ hlen] at ho;rw [join_in (by omega)]; exact h'.fresh o ho
  ·by_cases hc:o<H.length∧bit F o=false
   ·rw [Qcx hc] at ho;obtain ⟨x,hx⟩:=h.live o z l ho;exact ⟨x,by rw [hget_patch _ _ _ _ hlen,Nat.zero_add,if_pos hc]; exact hx⟩
   ·rw [join_in hc] at ho;obtain ⟨x,hx⟩:=h'.live o z l ho;exact ⟨x,by rw [hget_patch _ _ _ _ hlen,Nat.zero_add,if_neg hc]; exact hx⟩
  ·rw [hget_patch _ _ _ _ hlen,Nat.zero_add] at hx
   by_cases hc:o<H.length∧bit F o=false
   ·rw [if_pos hc] at hx;obtain ⟨z,l,h1,h2⟩:=h.ob o x hx;refine ⟨z,l,by rw [Qcx hc]; exact h1,OR.stay ev2 X (fun hz b p hA _=>?_) h2⟩;subst hz;refine ev.heap b (h.out o l b p h1 hA).2 ?_
    rintro ⟨o2,l2,p2,m1,m2⟩
    obtain ⟨m3,m4⟩:=cut_at m1;have:=h.inj o o2 l l2 b p p2 h1 m3 hA m2;subst this; rw [hc.2] at m4; cases m4
   ·rw [if_neg hc] at hx;obtain ⟨z,l,h1,h2⟩:=h'.ob o x hx;refine ⟨z,l,by rw [join_in hc]; exact h1,?_⟩;rw [hY];refine OR.re (fun k hk=>?_) h2;have:=objs_at hob hx;unfold inF at this;rw [List.all_eq_true] at this;have:=this k hk;rw [Bool.or_eq_true,Nat.ble_eq] at this;have e:=hin k this;exact ⟨fun hne=>by rw [e]; exact hne,fun z l he=>by rw [e] at he; exact he⟩
  ·by_cases hc:o<H.length∧bit F o=false<;>by_cases hc':o'<H.length∧bit F o'=false
   ·rw [Qcx hc] at h1; rw [Qcx hc'] at h2; exact h.inj o o' l l' b p p' h1 h2 hA hA'
   ·rw [Qcx hc] at h1; rw [join_in hc'] at h2;exact absurd (.inr ⟨o,l,p,h1,hA,hc.2⟩) (h'.out o' l' b p' h2 hA').1
   ·rw [join_in hc] at h1; rw [Qcx hc'] at h2;exact absurd (.inr ⟨o',l',p',h2,hA',hc'.2⟩) (h'.out o l b p h1 hA).1
   ·rw [join_in hc] at h1; rw [join_in hc'] at h2; exact h'.inj o o' l l' b p p' h1 h2 hA hA'
  ·by_cases hc:o<H.length∧bit F o=false
   ·rw [Qcx hc] at h1;obtain ⟨k1,k2⟩:=h.out o l b p h1 hA;exact ⟨k1,Nat.lt_of_lt_of_le k2 ev.size⟩
   ·rw [join_in hc] at h1;obtain ⟨k1,k2⟩:=h'.out o l b p h1 hA;exact ⟨fun hx=>k1 (.inl hx),k2⟩
 ·by_cases hc:k<H.length∧bit F k=false
  ·rw [Qcx hc]; exact e
  ·rw [join_in hc];refine hfr k hk ?_;unfold Phi.cut; rw [e]
end
end Go.Proofs.Ytbgjlpdeoljmiaa
