/- Several texts in one. No condition. -/
import Derived.Test.YtinabbgjignkbaaTM
import Derived.Recover
import Derived.RangeFuncRecord
namespace Go.Proofs.Ytinabbgjignkbaa
set_option linter.unusedSimpArgs false
set_option linter.unusedVariables false
open Go.RowKit
end Go.Proofs.Ytinabbgjignkbaa
namespace Go.Proofs.Ytinabbgjignkbaa
set_option linter.unusedSimpArgs false
set_option linter.unusedVariables false
open Go.RowKit
mutual
def rnA(f:Nat→Nat):AV→AV
 | .pl p=>.pl p
 | .un=>.un
 | .ip cs i=>.ip cs i
 | .own o=>.own (f o)
 | .vw o i j=>.vw (f o) i j
 | .bp o i=>.bp (f o) i
 | .ep o i j=>.ep (f o) i j
 | .mp o=>.mp (f o)
 | .it o=>.it (f o)
 | .yl o=>.yl (f o)
 | .tup cs=>.tup (rnL f cs)
 | .clo k cs=>.clo k (rnL f cs)
 | .agg cs=>.agg (rnL f cs)
def rnL(f:Nat→Nat):List AV→List AV
 | []=>[]
 | c::r=>rnA f c::rnL f r
end
def rnOb(f:Nat→Nat):Ob→Ob
 | .box t cs=>.box t (rnL f cs)
 | .abox t cs es=>.abox t (rnL f cs) es
 | .row z sz es=>.row z sz es
 | .brow e s=>.brow e s
 | .map kvs=>.map kvs
 | .lp c st pend cs=>.lp c st pend (rnL f cs)
 | .iter o n seen=>.iter (f o) n seen
def toB_(n:Nat)(m:List Nat)(j:Nat):Nat:=match m[j]? with | some o=>o | none=>n+(j-m.length)
def ofB_(n:Nat)(m:List Nat)(o:Nat):Option Nat:=bif Nat.ble n o then some (m.length+(o-n)) else idxN o m 0
def bigH(n:Nat)(m:List Nat)(H:Hp):Hp:=(List.range (n+(H.length-m.length))).map fun o=>match ofB_ n m o with | some j=>(hget H j).map (rnOb (toB_ n m)) | none=>none
def okB(n:Nat):List Nat→Bool
 | []=>true
 | o::r=>Nat.blt o n&&!(r.any (Nat.beq o))&&okB n r
section
variable {P:Program} {C:Cfg} {w w':World} {X Y:Nat→Prop} {φ φ':Phi} {H H':Hp} {n:Nat} {m:List Nat} {f:Nat→Nat}
theorem okB_lt:∀{m:List Nat},okB n m=true→∀{j o:Nat},m[j]?=some o→o<n
 | [],_,j,o,h=>by simp at h
 | x::r,hk,0,o,h=>by
  simp only [okB,Bool.and_eq_true] at hk;simp at h; subst h; exact (Nat.blt_eq).mp hk.1.1
 | x::r,hk,j+1,o,h=>by
  simp only [okB,Bool.and_eq_true] at hk;exact okB_lt hk.2 (by simpa using h)
theorem okB_idx:∀{m:List Nat},okB n m=true→∀{i j o:Nat},m[j]?=some o→idxN o m i=some (i+j)
 | [],_,i,j,o,h=>by simp at h
 | x::r,hk,i,0,o,h=>by
  simp at h; subst h;simp [idxN]
 | x::r,hk,i,j+1,o,h=>by
  simp only [okB,Bool.and_eq_true] at hk;have hr:r[j]?=some o:=by simpa using h
  have hne:Nat.beq x o=false:=by
   cases hb:Nat.beq x o with
   | false=>rfl
   | true =>
    have e:=Nat.eq_of_beq_eq_true hb;subst e;have h2:=hk.1.2;rw [Bool.not_eq_true',←Bool.not_eq_true,List.any_eq_true] at h2;exact (h2 ⟨x,List.mem_of_getElem? hr,by simp⟩).elim
  simp only [idxN,hne,cond_false];rw [okB_idx hk.2 hr]; congr 1; omega
theorem of_to(hm:okB n m=true)(j:Nat):ofB_ n m (toB_ n m j)=some j:=by
 unfold toB_ ofB_;cases h:m[j]? with
 | some o =>
  have hlt:=okB_lt hm h;have hb:Nat.ble n o=false:=by rw [Bool.eq_false_iff]; intro hc; have:=Nat.le_of_ble_eq_true hc; omega
  simp only [hb,cond_false];rw [okB_idx hm h,Nat.zero_add]
 | none =>
  have hge:=List.getElem?_eq_none_iff.1 h;have hb:Nat.ble n (n+(j-m.length))=true:=by rw [Nat.ble_eq]; omega
  simp only [hb,cond_true]; congr 1; omega
theorem to_of{o j:Nat}(h:ofB_ n m o=some j):toB_ n m j=o:=by
 unfold ofB_ at h;cases hb:Nat.ble n o with
 | true =>
  simp only [hb,cond_true,Option.some.injEq] at h; subst h;unfold toB_;rw [List.getElem?_eq_none (by omega)];have:=Nat.le_of_ble_eq_true hb;show n+(m.length+(o-n)-m.length)=o;omega
 | false =>
  simp only [hb,cond_false] at h;obtain ⟨h1,h2⟩:=idxN_at h;unfold toB_;rw [show j=j-0 from rfl,h2]
theorem of_ge{o:Nat}(h:n≤o):ofB_ n m o=some (m.length+(o-n)):=by
 unfold ofB_;have hb:Nat.ble n o=true:=by rw [Nat.ble_eq]; exact h
 simp only [hb,cond_true]
theorem of_lt{o j:Nat}(h:o<n)(hj:ofB_ n m o=some j):j<m.length:=by
 unfold ofB_ at hj;have hb:Nat.ble n o=false:=by rw [Bool.eq_false_iff]; intro hc; have:=Nat.le_of_ble_eq_true hc; omega
 simp only [hb,cond_false] at hj;obtain ⟨_,h2⟩:=idxN_at hj;have:=(List.getElem?_eq_some_iff.1 h2).1;omega
theorem length_big:(bigH n m H).length=n+(H.length-m.length):=by simp [bigH]
theorem hget_big(hl:m.length≤H.length)(o:Nat):hget (bigH n m H) o=match ofB_ n m o with | some j=>(hget H j).map (rnOb (toB_ n m)) | none=>none:=by
 by_cases ho:o<n+(H.length-m.length)
 ·have:(bigH n m H)[o]?=some (match ofB_ n m o with | some j=>(hget H j).map (rnOb (toB_ n m)) | none=>none):=by
   unfold bigH;rw [List.getElem?_map,List.getElem?_range ho]; rfl
  conv=>lhs; unfold hget
  rw [this];cases ofB_ n m o with
  | none=>rfl
  | some j=>simp only; cases hget H j<;>rfl
 ·have:(bigH n m H)[o]?=none:=List.getElem?_eq_none (by rw [length_big]; omega)
  conv=>lhs; unfold hget
  rw [this,of_ge (by omega)];have:hget H (m.length+(o-n))=none:=by
   unfold hget;rw [List.getElem?_eq_none (by omega)]
  simp [this]
mutual
theorem VR.rn:∀(a:AV)(v:Value),VR w Y φ (rnA f a) v↔VR w Y (fun o=>φ (f o)) a v
 | .pl p,v=>by simp only [rnA,VR]
 | .un,v=>by simp only [rnA,VR]
 | .ip cs i,v=>by simp only [rnA,VR]
 | .own o,v=>by simp only [rnA,VR]
 | .vw o i j,v=>by simp only [rnA,VR]
 | .bp o i,v=>by simp only [rnA,VR]
 | .ep o i j,v=>by simp only [rnA,VR]
 | .mp o,v=>by simp only [rnA,VR]
 | .it o,v=>by simp only [rnA,VR]
 | .yl o,v=>by simp only [rnA,VR]
 | .tup cs,v=>by
  simp only [rnA,VR];exact ⟨fun ⟨vs,e,h⟩=>⟨vs,e,(VRT.rn cs vs).1 h⟩,fun ⟨vs,e,h⟩=>⟨vs,e,(VRT.rn cs vs).2 h⟩⟩
 | .clo k cs,v=>by
  simp only [rnA,VR];exact ⟨fun ⟨vs,e,h⟩=>⟨vs,e,(VRT.rn cs vs).1 h⟩,fun ⟨vs,e,h⟩=>⟨vs,e,(VRT.rn cs vs).2 h⟩⟩
 | .agg cs,v=>by
  simp only [rnA,VR];exact ⟨fun ⟨vs,e,h⟩=>⟨vs,e,(VRL.rn cs vs).1 h⟩,fun ⟨vs,e,h⟩=>⟨vs,e,(VRL.rn cs vs).2 h⟩⟩
theorem VRL.rn:∀(cs:List AV)(vs:List Value),VRL w Y φ (rnL f cs) vs↔VRL w Y (fun o=>φ (f o)) cs vs
 | [],vs=>by simp only [rnL,VRL]
 | c::cs,vs=>by
  have ho:oneA (rnA f c)=oneA c:=by cases c<;>rfl
  simp only [rnL,VRL,ho];exact ⟨fun ⟨v,r,e,h0,h1,h2⟩=>⟨v,r,e,h0,(VR.rn c v).1 h1,(VRL.rn cs r).1 h2⟩,fun ⟨v,r,e,h0,h1,h2⟩=>⟨v,r,e,h0,(VR.rn c v).2 h1,(VRL.rn cs r).2 h2⟩⟩
theorem VRT.rn:∀(cs:List AV)(vs:List Value),VRT w Y φ (rnL f cs) vs↔VRT w Y (fun o=>φ (f o)) cs vs
 | [],vs=>by simp only [rnL,VRT]
 | c::cs,vs=>by
  simp only [rnL,VRT];exact ⟨fun ⟨v,r,e,h1,h2⟩=>⟨v,r,e,(VR.rn c v).1 h1,(VRT.rn cs r).1 h2⟩,fun ⟨v,r,e,h1,h2⟩=>⟨v,r,e,(VR.rn c v).2 h1,(VRT.rn cs r).2 h2⟩⟩
end
theorem rnL_pl(f:Nat→Nat):∀es:List PV,rnL f (es.map AV.pl)=es.map AV.pl
 | []=>rfl
 | p::r=>by rw [List.map_cons,rnL,rnL_pl f r]; rfl
theorem rnL_tail(f:Nat→Nat)(es:List PV):∀cs:List AV,rnL f (cs++es.map AV.pl)=rnL f cs++es.map AV.pl
 | []=>rnL_pl f es
 | c::r=>by rw [List.cons_append,rnL,rnL,rnL_tail f es r]; rfl
theorem OR.rn{z:Bool}{l:Loc}{x:Ob} : OR w Y φ z l (rnOb f x)↔OR w Y (fun o=>φ (f o)) z l x:=by
 cases x with
 | box t cs =>
  simp only [rnOb,OR];exact ⟨fun ⟨a,b,vs,h1,h2,h3⟩=>⟨a,b,vs,h1,h2,(VRL.rn cs vs).1 h3⟩,fun ⟨a,b,vs,h1,h2,h3⟩=>⟨a,b,vs,h1,h2,(VRL.rn cs vs).2 h3⟩⟩
 | abox t cs es =>
  simp only [rnOb,OR];rw [←rnL_tail];exact ⟨fun ⟨a,b,vs,h1,h2,h3⟩=>⟨a,b,vs,h1,h2,(VRL.rn _ vs).1 h3⟩,fun ⟨a,b,vs,h1,h2,h3⟩=>⟨a,b,vs,h1,h2,(VRL.rn _ vs).2 h3⟩⟩
 | row _ _ _=>simp only [rnOb,OR]
 | brow _ _=>simp only [rnOb,OR]
 | map _=>simp only [rnOb,OR]
 | lp c st pend cs =>
  simp only [rnOb,OR];exact ⟨fun ⟨a,b,fn,d,vs,h1,h2,h3⟩=>⟨a,b,fn,d,vs,h1,h2,(VRT.rn cs vs).1 h3⟩,fun ⟨a,b,fn,d,vs,h1,h2,h3⟩=>⟨a,b,fn,d,vs,h1,h2,(VRT.rn cs vs).2 h3⟩⟩
 | iter o k seen=>simp only [rnOb,OR]
theorem small_ok(hm:okB n m=true)(hl:m.length=H.length)(h:HR X φ (bigH n m H) w):HR X (fun j=>φ (toB_ n m j)) H w∧YOf X (fun j=>φ (toB_ n m j))=YOf X φ:=by
 have hY:YOf X (fun j=>φ (toB_ n m j))=YOf X φ:=by
  funext b
  apply propext
  constructor
  ·rintro (hx | ⟨o,l,p,h1,h2⟩)
   ·exact .inl hx
   ·exact .inr ⟨_,l,p,h1,h2⟩
  ·rintro (hx | ⟨o,l,p,h1,h2⟩)
   ·exact .inl hx
   ·obtain ⟨x,hx⟩:=h.live o false l h1;rw [hget_big (Nat.le_of_eq hl)] at hx;cases hj:ofB_ n m o with
    | none=>rw [hj] at hx; cases hx
    | some j=>exact .inr ⟨j,l,p,by simp only [to_of hj]; exact h1,h2⟩
 refine ⟨⟨fun j hj=>?_,fun j z l h1=>?_,fun j x hx=>?_,fun j j' l l' b p p' h1 h2 hA hA'=>?_,fun j l b p h1 hA=>h.out _ l b p h1 hA,⟨h.xlt.lt,h.xlt.tab.sub fun b ⟨j,l,p,h1,hA⟩=>⟨_,l,p,h1,hA⟩⟩⟩,hY⟩
 ·refine h.fresh _ ?_;rw [length_big];unfold toB_;rw [List.getElem?_eq_none (by omega)];show n+(H.length-m.length)≤n+(j-m.length);omega
 ·obtain ⟨x,hx⟩:=h.live _ z l h1;rw [hget_big (Nat.le_of_eq hl),of_to hm] at hx;simp only at hx;cases hg:hget H j with
  | none=>rw [hg] at hx; cases hx
  | some y=>exact ⟨y,rfl⟩
 ·have hb:hget (bigH n m H) (toB_ n m j)=some (rnOb (toB_ n m) x):=by rw [hget_big (Nat.le_of_eq hl),of_to hm]; simp [hx]
  obtain ⟨z,l,h1,h2⟩:=h.ob _ _ hb;exact ⟨z,l,h1,by rw [hY]; exact OR.rn.1 h2⟩
 ·have:=h.inj _ _ l l' b p p' h1 h2 hA hA';have e1:=of_to hm j;rw [this,of_to hm] at e1;exact (Option.some.inj e1).symm
def bigPhi(n:Nat)(m:List Nat)(φ φ0:Phi):Phi:=fun o=>match ofB_ n m o with | some j=>φ0 j | none=>φ o
theorem big_ok(hm:okB n m=true)(hl:m.length=H.length)(h:HR X φ (bigH n m H) w){φ0:Phi}(k:HR X φ0 H' w') (ev:Ev (fun j=>φ (toB_ n m j)) w φ0 w') (hlen:H.length≤H'.length) (hfr:∀j,j<H.length→φ (toB_ n m j) = .fresh→φ0 j = .fresh) :
  HR X (bigPhi n m φ φ0) (bigH n m H') w'∧Ev φ w (bigPhi n m φ φ0) w'∧YOf X (bigPhi n m φ φ0)=YOf X φ0∧(∀j,bigPhi n m φ φ0 (toB_ n m j)=φ0 j)∧(bigH n m H).length≤(bigH n m H').length∧∀o,o<(bigH n m H).length→φ o = .fresh→bigPhi n m φ φ0 o = .fresh:=by
 have hin:∀j,bigPhi n m φ φ0 (toB_ n m j)=φ0 j:=fun j=>by unfold bigPhi; rw [of_to hm]
 have hle:m.length≤H'.length:=by omega
 -- outside, nothing is told
 have hout:∀o,ofB_ n m o=none→∀z l,φ o≠.at z l:=fun o ho z l e=>by
  obtain ⟨x,hx⟩:=h.live o z l e;rw [hget_big (Nat.le_of_eq hl),ho] at hx; cases hx
 have src:∀o z l,bigPhi n m φ φ0 o = .at z l→∃j,ofB_ n m o=some j∧φ0 j = .at z l:=fun o z l e=>by
  unfold bigPhi at e;cases hj:ofB_ n m o with
  | none=>rw [hj] at e; exact absurd e (hout o hj z l)
  | some j=>rw [hj] at e; exact ⟨j,rfl,e⟩
 have hY:YOf X (bigPhi n m φ φ0)=YOf X φ0:=by
  funext b
  apply propext
  constructor
  ·rintro (hx | ⟨o,l,p,h1,h2⟩)
   ·exact .inl hx
   ·obtain ⟨j,_,h3⟩:=src o false l h1;exact .inr ⟨j,l,p,h3,h2⟩
  ·rintro (hx | ⟨j,l,p,h1,h2⟩)
   ·exact .inl hx
   ·exact .inr ⟨toB_ n m j,l,p,by rw [hin]; exact h1,h2⟩
 refine ⟨⟨fun o ho=>?_,fun o z l h1=>?_,fun o x hx=>?_,fun o o' l l' b p p' h1 h2 hA hA'=>?_,fun o l b p h1 hA=>?_,⟨k.xlt.lt,k.xlt.tab.sub fun b ⟨o,l,p,h1,h2⟩=>by
  obtain ⟨j,_,h3⟩:=src o false l h1;exact ⟨j,l,p,h3,h2⟩⟩⟩,⟨ev.os,ev.tape,ev.output,ev.size,fun b hb hn=>ev.heap b hb fun ⟨j,l,p,h1,h2⟩=>hn ⟨_,l,p,h1,h2⟩,fun b hb hc=>?_,fun o ho=>?_⟩,hY,hin,by rw [length_big,length_big]; omega,fun o ho hf=>?_⟩
 ·rw [length_big] at ho;unfold bigPhi;rw [of_ge (by omega)];exact k.fresh _ (by omega)
 ·obtain ⟨j,hj,h2⟩:=src o z l h1;obtain ⟨x,hx⟩:=k.live j z l h2;exact ⟨rnOb (toB_ n m) x,by rw [hget_big hle,hj]; simp [hx]⟩
 ·rw [hget_big hle] at hx;cases hj:ofB_ n m o with
  | none=>rw [hj] at hx; cases hx
  | some j =>
   rw [hj] at hx;obtain ⟨y,hy,rfl⟩:=Option.map_eq_some_iff.1 hx;obtain ⟨z,l,h1,h2⟩:=k.ob j y hy;refine ⟨z,l,by unfold bigPhi; rw [hj]; exact h1,?_⟩;rw [hY,OR.rn];have:(fun j=>bigPhi n m φ φ0 (toB_ n m j))=φ0:=funext hin;rw [this]; exact h2
 ·obtain ⟨j,hj,e1⟩:=src o false l h1;obtain ⟨j',hj',e2⟩:=src o' false l' h2;have:=k.inj j j' l l' b p p' e1 e2 hA hA';rw [←to_of hj,←to_of hj',this]
 ·obtain ⟨j,hj,e1⟩:=src o false l h1;exact k.out j l b p e1 hA
 ·obtain ⟨o,l,p,h1,h2⟩:=hc;obtain ⟨j,hj,e1⟩:=src o false l h1;obtain ⟨j2,l2,p2,h3,h4⟩:=ev.blk b hb ⟨j,l,p,e1,h2⟩;exact ⟨_,l2,p2,h3,h4⟩
 ·unfold bigPhi;cases hj:ofB_ n m o with
  | none=>exact .inl rfl
  | some j =>
   have:=ev.ids j (by simp only [to_of hj]; exact ho);simp only [to_of hj] at this;exact this
 ·rw [length_big] at ho;unfold bigPhi;cases hj:ofB_ n m o with
  | none=>exact hf
  | some j=>exact hfr j (by have:=of_lt (by omega) hj; omega) (by rw [to_of hj]; exact hf)
theorem Qr.ren{k:Nat}{args args':List AV}{v v':AV}{B B':Hp}(n:Nat)(m:List Nat)(h:Qr P true k args H v H')(hm:okB n m=true)(hl:Nat.beq m.length H.length=true)(ha:rnL (toB_ n m) args=args')(hv:rnA (toB_ n m) v=v')(hB:bigH n m H=B)(hB':bigH n m H'=B'):Qr P true k args' B v' B':=by
 subst ha; subst hv; subst hB; subst hB';have hl:=Nat.eq_of_beq_eq_true hl;obtain ⟨h1,_,h3⟩:=h;refine ⟨h1,fun h=>by (cases h),fun _ X φ w vs hH hvs=>?_⟩;obtain ⟨hs,hY⟩:=small_ok hm hl hH;refine (h3 (fun h=>by cases h) X _ w vs hs (by rw [hY]; exact (VRT.rn args vs).1 hvs)).mono fun e w' hr=>?_;obtain ⟨r,hmem,u,φ0,he,k1,k2,k3,k4,k5⟩:=hr;rw [List.mem_singleton] at hmem; subst hmem;obtain ⟨b1,b2,b3,b4,b5,b6⟩:=big_ok hm hl hH k2 k3 k4 k5;refine ⟨_,List.mem_singleton.2 rfl,u,_,he,?_,b1,b2,b5,b6⟩;rw [b3,VR.rn];have:(fun j=>bigPhi n m φ φ0 (toB_ n m j))=φ0:=funext b4;rw [this]; exact k1
end
theorem same_val{e f:Ent}(h:e.args=f.args→e.v=f.v∧e.H'=f.H'):e.same f∧f.same e :=
 ⟨fun _ k _=>h k,fun _ k _=>⟨(h k.symm).1.symm,(h k.symm).2.symm⟩⟩
end Go.Proofs.Ytinabbgjignkbaa
namespace Go.Proofs.Ytinabbgjignkbaa
set_option linter.unusedSimpArgs false
set_option linter.unusedVariables false
open Go.RowKit
abbrev jB(b:Bool):AV:=.pl (.bool b)
abbrev jI(n:Int):AV:=.pl (.int .i64 n)
abbrev jS(s:ByteArray):AV:=.pl (.str s)
abbrev jA{α:Type}(c:α→List PV)(x:α):AV:=.pl (.agg (c x))
abbrev jL{α:Type}(sz:Nat)(c:α→List PV)(l:List α):AV:=.pl (.sl .any sz (l.map c))
abbrev jR{α:Type}(sz:Nat)(c:α→List PV)(l:List α):Option Ob:=some (.row false sz (l.map c))
abbrev jN(k:Nat)(l:Hp):Hp:=List.replicate k none++l
abbrev jF(l:List Nat):List (Nat×Bool):=l.map fun i=>(i,false)
abbrev jT(l:List Nat):List (Nat×Bool):=l.map fun i=>(i,true)
abbrev j3:RH:=([],[],[])
abbrev jH(i:Nat)(v:AV):Nat×Hint:=(i,.call v [])
theorem ap2{p:Prop}{l:List Prop}(h:p)(t:AllP l):AllP (p::p::l):=⟨h,h,t⟩
theorem ap3{p:Prop}{l:List Prop}(h:p)(t:AllP l):AllP (p::p::p::l):=⟨h,h,h,t⟩
theorem ap4{p:Prop}{l:List Prop}(h:p)(t:AllP l):AllP (p::p::p::p::l):=⟨h,h,h,h,t⟩
section
variable {P:Program} {C:Cfg} {n base:Nat} {st st':Tr×Hp}
theorem rN(hC':Qac P C){c:Code}{Q:Ex×Tr×Hp→Prop}(k:Nat)(rs:List RH)(ps:List (Option Bool))(tds:List Td)(m keep:List Nat)(st':Tr×Hp){cs:List Prop}(hp:AllP cs)(hT:T P n base (Qh k c) st' Q) (h:hRunK P C n base k c rs ps tds m keep st=some ((.norm,st'),cs):=by kernel_rfl):T P n base c st Q :=
 runK_norm hC' h hp hT
theorem rK(hC':Qac P C){c:Code}{Q:Ex×Tr×Hp→Prop}(k:Nat)(rs:List RH)(ps:List (Option Bool))(tds:List Td)(m keep:List Nat)(ex:Ex)(st':Tr×Hp){cs:List Prop}(hp:AllP cs)(hQ:Q (ex,st')) (h:hRunK P C n base k c rs ps tds m keep st=some ((ex,st'),cs):=by kernel_rfl) (he:isN ex=false:=by rfl):T P n base c st Q :=
 runK_end hC' h hp (fun e=>by subst e; cases he) hQ
theorem rE(hC':Qac P C){c:Code}{Q:Ex×Tr×Hp→Prop}(rs:List RH)(ps:List (Option Bool))(tds:List Td)(m keep:List Nat)(r:Ex×Tr×Hp){cs:List Prop}(hp:AllP cs)(hQ:Q r)(h:hRun P C n base c rs ps tds m keep st=some (r,cs):=by kernel_rfl):T P n base c st Q :=
 run_end hC' h hp hQ
end
theorem map_eq_of{α:Type}{c:α→List PV}(h:∀a b,c a=c b→a=b){x y:List α} : (x.map c=y.map c)=(x=y) :=
 propext ⟨fun k=>(List.map_inj_right (fun {a b} e=>h a b e)).1 k,fun k=>by rw [k]⟩
section
variable {P:Program} {H H':Hp}
theorem Qr.rn{k:Nat}{args:List AV}{v:AV}(n:Nat)(m:List Nat)(h:Qr P true k args H v H')(hm:okB n m=true:=by kernel_rfl)(hl:Nat.beq m.length H.length=true:=by kernel_rfl):Qr P true k (rnL (toB_ n m) args) (bigH n m H) (rnA (toB_ n m) v) (bigH n m H') :=
 Qr.ren n m h hm hl rfl rfl rfl rfl
end
end Go.Proofs.Ytinabbgjignkbaa
namespace Go.Proofs.Ytinabbgjignkbaa
set_option linter.unusedSimpArgs false
set_option linter.unusedVariables false
open Go.RowKit





section
variable {α:Type} {xs:List α} {a l k:Nat} {n:Int} {b:α} {c:α→List PV}
theorem vw_at (h:at? ((xs.drop a).take l) n=some b):xs[a+n.toNat]?=some b:=by
 have:=(Qe h).2;rw [List.getElem?_take] at this
 split at this
 ·rw [List.getElem?_drop] at this; exact this
 ·cases this
theorem vw_lt (h:at? ((xs.drop a).take l) n=some b):n.toNat<l:=by
 have:=(Qe h).2;rw [List.getElem?_take] at this
 split at this
 ·assumption
 ·cases this
theorem vw_req(h:decide (a+l≤xs.length)=true):a+l≤(xs.map c).length:=by rw [List.length_map]; exact of_decide_eq_true h
theorem len_ov:(xs.map c).length=xs.length:=List.length_map _
theorem el_vw{H:Hp}{o sz:Nat}{f:Bool} (hg:hget H o=some (.row f sz (xs.map c))) (h:a+l≤(xs.map c).length):elems H (.vw o a l)=some (sz,((xs.drop a).take l).map c):=by
 unfold elems;simp only [hg];rw [ble_of h,cond_true,List.map_take,List.map_drop]
theorem el_vwS{H:Hp}{o sz:Nat}{f:Bool} (hg:hget H o=some (.row f sz (xs.map c))) (h:a+l≤(xs.map c).length):Qay H (.vw o a l)=some (((xs.drop a).take l).map c):=by
 have e:Qay H (.vw o a l)=(elems H (.vw o a l)).map (·.2):=rfl;rw [e,el_vw hg h]; rfl
theorem toA_r(es:List PV):es.map AV.pl=es.map AV.pl:=rfl
theorem vw_end(h:decide (a+l=xs.length)=true):a+l=(xs.map c).length:=by rw [List.length_map]; exact of_decide_eq_true h
theorem app_cvd{ys:List α} : (xs.map c).drop a++ys.map c=(xs.drop a++ys).map c:=by rw [List.map_append,List.map_drop]
theorem vw_cut{a l b N:Nat}(h:b≤l)(k:a+l≤N):a+b≤N:=by omega
def idxB(n:Int)(m:Nat):Bool:=decide (0≤n∧n<(m:Int))
theorem Qq{n:Int}{m:Nat}(h:idxB n m=true):n=((n.toNat:Nat):Int):=by have:=of_decide_eq_true h; omega
theorem Qs{n:Int}{m:Nat}(h:idxB n m=true):n.toNat<m:=by have:=of_decide_eq_true h; omega
theorem arr_lt{β:Type}{f:α→β}(h:decide (k<xs.length)=true):k<(xs.map f).length:=by rw [List.length_map]; exact of_decide_eq_true h
theorem Qt{β:Type}(f:α→β){x:α}(h:xs[k]?=some x):(xs.map f)[k]?=some (f x):=by rw [List.getElem?_map,h]; rfl
theorem Qcg{β:Type}{f:α→β}{x:α}(h:xs[k]?=some x):k<(xs.map f).length:=by
 rw [List.length_map];rcases Nat.lt_or_ge k xs.length with q | q
 ·exact q
 ·rw [List.getElem?_eq_none q] at h; cases h
theorem Qai{β:Type}{f:α→β}{x:α} : (xs.map f).set k (f x)=(xs.set k x).map f:=by rw [List.map_set]
theorem fit_num{b n k:Nat}{te:TI}(h:fit (n+k) b=true)(hb:te.bytes=b):Qbx (n+k) te=true:=fit_of h hb
end
end Go.Proofs.Ytinabbgjignkbaa
namespace Go.Proofs.Ytinabbgjignkbaa
set_option linter.unusedVariables false
set_option linter.unusedSimpArgs false
end Go.Proofs.Ytinabbgjignkbaa
