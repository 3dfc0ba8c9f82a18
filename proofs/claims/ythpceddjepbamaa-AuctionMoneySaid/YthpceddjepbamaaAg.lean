/- Several texts in one. No condition. -/
import Derived.Test.YthpceddjepbamaaSw
import Derived.Test.YthpceddjepbamaaTU
namespace Go.Proofs.Ythpceddjepbamaa
set_option linter.unusedVariables false
set_option linter.unusedSimpArgs false
open Go.RowKit
abbrev AA:=Qe
abbrev AL:=Qb
abbrev AB:=Qc
abbrev AW:=Qa
abbrev SH:=Qd

theorem f67_eq(c:Int):f67 c=some (ltrI c):=by
 unfold f67 f67n0 ltrI;cases decide (97≤c)<;>cases decide (c≤122)<;>cases decide (65≤c)<;>cases decide (c≤90)<;>rfl
theorem f50n2_eq{s:ByteArray}{k:Int}{b:UInt8}(h:at? s.data.toList k=some b):f50n2 s k=some (bif chB b then .norm else .ret):=by
 have h3:f50n3 s b k=some (.norm (!(chB b))):=by
  unfold f50n3 chB othI;rw [f67_eq,ltNot,ltNot];simp only [Option.bind_some];cases ltrI b.toNat<;>cases decide ((48:Int)≤(b.toNat:Int))<;>cases decide ((b.toNat:Int)≤57)<;>cases decide ((b.toNat:Int)=95)<;>cases decide ((b.toNat:Int)=45)<;>rfl
 unfold f50n2;rw [h];simp only [Option.bind_some,h3];cases chB b<;>rfl
theorem f50n4_at(s:ByteArray)(hs:s.data.toList.length≤1000):∀(r:List UInt8)(f k:Nat),s.data.toList.drop k=r→r.length<f→f50n4 f s (k:Int)=some (bif r.all chB then .exit0 else .ret)
 | _,0,_,_,h=>absurd h (Nat.not_lt_zero _)
 | [],f+1,k,hd,_=>by
  have:=Qan hd;rw [f50n4,sizeList,decide_eq_false (by omega),cond_false]; rfl
 | b::r,f+1,k,hd,hf=>by
  obtain ⟨h1,h2,h3⟩:=dropAt hd;rw [f50n4,sizeList,decide_eq_true (by omega),cond_true,f50n2_eq h1,List.all_cons];cases chB b with
  | false=>rfl
  | true =>
   simp only [cond_true,Option.bind_some,Bool.true_and];rw [wrSucc (by omega)];exact f50n4_at s hs r f (k+1) h3 (by simpa using hf)
theorem f50_eq(s:ByteArray):f50 s=some (nmB s):=by
 unfold f50 f50n0 nmB;rw [sizeList]
 by_cases hs:s.data.toList.length≤40
 ·have h1:f50n1 s=some (bif s.data.toList.all chB then .norm else .ret):=by
   unfold f50n1;have:=f50n4_at s (by omega) s.data.toList FUEL 0 List.drop_zero (Qbf (by omega));rw [show ((0:Nat):Int)=0 from rfl] at this;rw [this];cases s.data.toList.all chB<;>rfl
  rw [h1];generalize s.data.toList=l at hs;rw [decide_eq_false (by omega:¬(40:Int)<(l.length:Int))];cases l with
  | nil=>rfl
  | cons b r =>
   have h0:at? (b::r) 0=some b:=rfl;rw [decide_eq_false (by simp; omega:¬(((b::r).length:Nat):Int)<1),h0];simp only [cond_false,Option.bind_some,f67_eq,isNm,decide_eq_true hs,Bool.true_and,List.all_cons,chB];cases ltrI b.toNat<;>cases othI b.toNat<;>cases r.all chB<;>rfl
 ·rw [decide_eq_false (by omega:¬((s.data.toList.length:Nat):Int)<1),decide_eq_true (by omega:(40:Int)<((s.data.toList.length:Nat):Int))];have:isNm s.data.toList=false:=by
   generalize s.data.toList=l at hs;cases l with
   | nil=>rfl
   | cons b r=>simp only [isNm,decide_eq_false hs,Bool.false_and]
  rw [this]; rfl

theorem f60_eq(a:Int):f60 a=some false:=by unfold f60 f60n0; simp
theorem f79_eq(a:ByteArray):f79 a=some false:=by unfold f79 f79n0; simp [seq_refl]
theorem f39_eq(a b:Int):f39 a b=some (cmpI a b):=by
 unfold f39 f39n0 cmpI;rw [f60_eq,f60_eq];simp only [Option.bind_some,cond_false];cases decide (a<b)<;>cases decide (b<a)<;>rfl
theorem f63_eq(a b:ByteArray):f63 a b=some (cmpB a b):=by
 unfold f63 f63n0 cmpB;rw [f79_eq,f79_eq];simp only [Option.bind_some,cond_false];cases slt a b<;>cases seq a b<;>rfl
theorem f62_eq(x:AL)(n:ByteArray):f62 x n=some (cmpB x.Name n):=by unfold f62 f62n0; rw [f63_eq]; rfl
theorem f51_eq(a b c:Int):f51 a b c=some (decide (b≤a)&&decide (a≤c)):=by
 unfold f51 f51n0;cases decide (b≤a)<;>rfl

def lotN(n:ByteArray):List AL→Option AL
 | []=>none
 | x::r=>bif seq x.Name n then some x else lotN n r
theorem lotN_none{n:ByteArray} : ∀{l:List AL},(∀x∈l,x.Name≠n)→lotN n l=none
 | [],_=>rfl
 | x::r,h=>by rw [lotN,seqF (h x List.mem_cons_self),cond_false,lotN_none fun y hy=>h y (List.mem_cons_of_mem _ hy)]
theorem lotN_app{n:ByteArray} : ∀{pre post:List AL},(∀x∈pre,x.Name≠n)→lotN n (pre++post)=lotN n post
 | [],_,_=>rfl
 | x::r,post,h=>by rw [List.cons_append,lotN,seqF (h x List.mem_cons_self),cond_false,lotN_app fun y hy=>h y (List.mem_cons_of_mem _ hy)]
theorem lotN_mem{n:ByteArray}{x:AL} : ∀{l:List AL},lotN n l=some x→x∈l∧x.Name=n
 | y::r,h=>by
  rw [lotN] at h;cases k:seq y.Name n with
  | true=>rw [k] at h; obtain rfl:=Option.some.inj h; exact ⟨List.mem_cons_self,seq_iff.1 k⟩
  | false =>
   rw [k] at h;obtain ⟨h1,h2⟩:=lotN_mem h;exact ⟨List.mem_cons_of_mem _ h1,h2⟩
abbrev SSrt(l:List AL):Prop:=l.Pairwise fun a b=>slt a.Name b.Name=true
theorem lotN_of:∀{l:List AL},SSrt l→∀x∈l,lotN x.Name l=some x
 | y::r,h,x,hx=>by
  rw [lotN];have h':=List.pairwise_cons.1 h;rcases List.mem_cons.1 hx with rfl | hx
  ·rw [seq_refl,cond_true]
  ·rw [seqF (sltNe (h'.1 x hx)),cond_false,lotN_of h'.2 x hx]
theorem f61n1_eq{l:List AL}(n:ByteArray)(hl:l.length≤1000000):∀(f lo hi:Nat),hi≤l.length→lo≤1000000→f61_62n1 f l n (lo:Int) (hi:Int)=(bsN (pq (fun y=>decide (cmpB y.Name n<0)) l) f lo hi).map fun r=>.exit0 (r:Int)
 | 0,lo,hi,_,_=>rfl
 | f+1,lo,hi,h,h0=>by
  rw [f61_62n1,bsN]
  by_cases hlt:lo<hi
  ·have hk:(lo+hi) / 2<l.length:=by omega
   rw [decide_eq_true hlt,decide_eq_true (by omega:(lo:Int)<(hi:Int)),st_half (by omega),at_in hk];simp only [cond_true,Option.bind_some,f62_eq];have ep:pq (fun y=>decide (cmpB y.Name n<0)) l ((lo+hi) / 2)=decide (cmpB l[(lo+hi) / 2].Name n<0):=by unfold pq; rw [List.getElem?_eq_getElem hk]
   rw [ep];cases decide (cmpB l[(lo+hi) / 2].Name n<0) with
   | true=>rw [cond_true,cond_true,show wr64 ((((lo+hi) / 2:Nat):Int)+1)=(((lo+hi) / 2+1:Nat):Int) by rw [wrIn (by omega) (by omega)]; omega]; exact f61n1_eq n hl f _ _ h (by omega)
   | false=>rw [cond_false,cond_false]; exact f61n1_eq n hl f _ _ (by omega) h0
  ·rw [decide_eq_false hlt,decide_eq_false (by omega:¬(lo:Int)<(hi:Int))]; rfl
theorem f44_eq{s:List AL}(hs:SSrt s)(hl:s.length≤1000)(n:ByteArray):∃i,f44 s n=some (i,(lotN n s).isSome):=by
 obtain ⟨r,q1,q2,q3,q4,q5⟩:=bsN_ok (p:=pq (fun y=>decide (cmpB y.Name n<0)) s) FUEL 0 s.length (by omega) (Qbf (by omega)) fun i j a1 a2 a3 a4=>by
  have:=pq_mono (X:=[]) (B:=s) (R:=[]) (q:=fun y=>decide (cmpB y.Name n<0)) (hs.imp fun {u w} huw hq=>by
   rw [decide_eq_true_eq,cmpB_neg] at *;exact slt_trans huw hq) i j (by simp) a2 (by simpa using a3) (by simpa using a4)
  simpa using this
 have h1:f61_62n1 FUEL s n 0 (s.length:Int)=some (.exit0 (r:Int)):=by
  have:=f61n1_eq (l:=s) n (by omega) FUEL 0 s.length (Nat.le_refl _) (by omega);rw [q1] at this;exact this
 obtain ⟨s1,s2,rfl,hs1⟩:=cutL_ (l:=s) (n:=r) q3;rw [List.length_append] at q5;have f1:∀y∈s1,decide (cmpB y.Name n<0)=true:=pq_seg (X:=[]) (R:=s2) fun i a1 a2=>by
  have:=q4 i (by omega) (by simpa [hs1] using a2);simpa using this
 have f2:∀y∈s2,decide (cmpB y.Name n<0)=false:=pq_seg (X:=s1) (R:=[]) fun i a1 a2=>by
  have:=q5 i (by omega) a2;simpa using this
 have hn1:∀y∈s1,y.Name≠n:=fun y hy=>sltNe (cmpB_neg.1 (of_decide_eq_true (f1 y hy)));have h61:f61_62 (s1++s2) n=some ((r:Int),match s2 with | []=>false | y::_=>decide (cmpB y.Name n=0)):=by
  unfold f61_62 f61_62n0;rw [h1];simp only [Option.bind_some];cases s2 with
  | nil=>rw [decide_eq_false (by rw [List.append_nil]; omega)]; rfl
  | cons y t =>
   rw [decide_eq_true (by simp; omega),at_len (k:=r) (a:=s1) (x:=y) (b:=t) rfl hs1.symm];simp only [cond_true,Option.bind_some,f62_eq]
 refine ⟨(r:Int),?_⟩;unfold f44 f44n0;rw [h61,lotN_app hn1];simp only [Option.bind_some];cases s2 with
 | nil=>rfl
 | cons y t =>
  by_cases hk:cmpB y.Name n=0
  ·simp only [decide_eq_true hk];rw [lotN,seq_iff.2 (cmpB_zero.1 hk)]; rfl
  ·simp only [decide_eq_false hk];have hs':=List.pairwise_cons.1 (List.pairwise_append.1 hs).2.1;have hy:slt n y.Name=true:=cmpB_pos.1 (by have:=of_decide_eq_false (f2 y List.mem_cons_self); omega);rw [lotN_none fun z hz=>?_]
   ·rfl
   ·rcases List.mem_cons.1 hz with rfl | hz
    ·exact (sltNe hy).symm
    ·exact (sltNe (slt_trans hy (hs'.1 z hz))).symm

def gdB(b:AB):Bool:=nmB b.Member&&(!(seq b.Member str_house)&&((decide (1≤b.Units)&&decide (b.Units≤1048576))&&(decide (0≤b.Price)&&decide (b.Price≤33554432))))
theorem f45_eq(b:AB):f45 b=some (gdB b):=by
 unfold f45 f45n0 gdB;rw [f50_eq,f51_eq,f51_eq];cases nmB b.Member<;>cases seq b.Member str_house<;>cases decide (1≤b.Units)<;>cases decide (b.Units≤1048576)<;>rfl
def inL(x:AL):Bool:=nmB x.Name&&((decide (1≤x.Units)&&decide (x.Units≤1048576))&&(decide (0≤x.Reserve)&&decide (x.Reserve≤33554432)))
def ordL:Option AL→AL→Bool
 | none,_=>true
 | some y,x=>slt y.Name x.Name
def okL:Option AL→List AL→Bool
 | _,[]=>true
 | p,x::r=>(inL x&&ordL p x)&&okL (some x) r
theorem f31n2_eq{a:AA}{pre r:List AL}{x:AL}(h:a.Lots=pre++x::r)(hl:a.Lots.length≤1000):f31n2 a ((pre.length:Nat):Int)=some (bif inL x&&ordL pre.getLast? x then .norm else .ret):=by
 have h3:f31n3 ((pre.length:Nat):Int) a x=some (.norm (!(inL x&&ordL pre.getLast? x))):=by
  unfold f31n3 inL;rw [f50_eq,f51_eq,f51_eq];rcases List.eq_nil_or_concat pre with rfl | ⟨q,y,rfl⟩
  ·simp only [List.length_nil,Int.natCast_zero,List.getLast?_nil,ordL];rw [decide_eq_false (by omega:¬(0:Int)<0)];cases nmB x.Name<;>cases decide (1≤x.Units)&&decide (x.Units≤1048576)<;>cases decide (0≤x.Reserve)&&decide (x.Reserve≤33554432)<;>rfl
  ·rw [List.concat_eq_append] at h ⊢;have hq:q.length+1≤1000:=by rw [h] at hl; simp at hl; omega
   rw [decide_eq_true (by simp:(0:Int)<(((q++[y]).length:Nat):Int)),show wr64 ((((q++[y]).length:Nat):Int)-1)=((q.length:Nat):Int) by rw [wrIn (by simp<;>omega) (by simp<;>omega)]; simp,at_len (k:=q.length) (a:=q) (x:=y) (b:=x::r) (by rw [h]; simp) rfl,List.getLast?_concat];simp only [cond_true,Option.bind_some,ordL];cases nmB x.Name<;>cases slt y.Name x.Name<;>cases decide (1≤x.Units)&&decide (x.Units≤1048576)<;>cases decide (0≤x.Reserve)&&decide (x.Reserve≤33554432)<;>rfl
 unfold f31n2;rw [at_len h rfl];simp only [Option.bind_some,h3];cases inL x&&ordL pre.getLast? x<;>rfl
theorem f31n4_at{a:AA}(hl:a.Lots.length≤1000):∀(r pre:List AL)(f:Nat),a.Lots=pre++r→r.length<f→f31n4 f a ((pre.length:Nat):Int)=some (bif okL pre.getLast? r then .exit0 else .ret)
 | _,_,0,_,h=>absurd h (Nat.not_lt_zero _)
 | [],pre,f+1,h,_=>by rw [f31n4,decide_eq_false (by rw [h]; simp),cond_false]; rfl
 | x::r,pre,f+1,h,hf=>by
  have hp:pre.length<a.Lots.length:=by rw [h]; simp
  have ih:=f31n4_at hl r (pre++[x]) f (by rw [h]; simp) (by simpa using hf);rw [List.length_append,List.getLast?_concat] at ih;rw [f31n4,decide_eq_true (by omega),cond_true,f31n2_eq h hl,okL];cases inL x&&ordL pre.getLast? x with
  | false=>rfl
  | true =>
   simp only [cond_true,Option.bind_some,Bool.true_and];rw [wrSucc (by omega)];exact ih
theorem okL_some:∀{l:List AL} {p:AL},okL (some p) l=true→(p::l).Pairwise (fun a b=>slt a.Name b.Name=true)∧∀x∈l,inL x=true
 | [],p,_=>by simp
 | y::r,p,h=>by
  rw [okL,ordL,Bool.and_eq_true,Bool.and_eq_true] at h;obtain ⟨⟨h1,h2⟩,h3⟩:=h;obtain ⟨h4,h5⟩:=okL_some h3;refine ⟨List.pairwise_cons.2 ⟨fun z hz=>?_,h4⟩,fun z hz=>?_⟩
  ·rcases List.mem_cons.1 hz with rfl | hz
   ·exact h2
   ·exact slt_trans h2 ((List.pairwise_cons.1 h4).1 z hz)
  ·rcases List.mem_cons.1 hz with rfl | hz
   ·exact h1
   ·exact h5 z hz
theorem okL_none{l:List AL}(h:okL none l=true):SSrt l∧∀x∈l,inL x=true:=by
 cases l with
 | nil=>simp
 | cons y r =>
  rw [okL,Bool.and_eq_true,Bool.and_eq_true] at h;obtain ⟨⟨h1,_⟩,h3⟩:=h;obtain ⟨h4,h5⟩:=okL_some h3;exact ⟨h4,fun z hz=>by
   rcases List.mem_cons.1 hz with rfl | hz
   ·exact h1
   ·exact h5 z hz⟩
def bidB(ls:List AL)(b:AB):Bool:=(lotN b.Lot ls).isSome&&gdB b
theorem f31w_eq{a:AA}(hs:SSrt a.Lots)(hl:a.Lots.length≤1000):∀(l:List AB)(v:Int),f31n6L a l v=some (bif l.all (bidB a.Lots) then .exit2 else .ret)
 | [],_=>rfl
 | b::r,v=>by
  obtain ⟨i,hi⟩:=f44_eq hs hl b.Lot;rw [f31n6L,hi,List.all_cons,f31w_eq hs hl r,bidB,f45_eq];simp only [Option.bind_some];cases (lotN b.Lot a.Lots).isSome<;>cases gdB b<;>rfl
def okA(a:AA):Bool:=decide (a.Rule≤2)&&(decide (a.Lots.length≤16)&&(decide (a.Bids.length≤100)&&(okL none a.Lots&&a.Bids.all (bidB a.Lots))))
theorem lenD(n k:Nat):decide ((k:Int)<(n:Int)) = !(decide (n≤k)):=by
 rw [ltNot]; congr 1
 by_cases h:n≤k
 ·rw [decide_eq_true h,decide_eq_true (by omega:(n:Int)≤(k:Int))]
 ·rw [decide_eq_false h,decide_eq_false (by omega:¬(n:Int)≤(k:Int))]
theorem f31_eq(a:AA):f31 a=some (bif okA a then 0 else 8):=by
 unfold f31 f31n0 okA;rw [ltNot,show decide ((16:Int)<(a.Lots.length:Int))=_ from lenD a.Lots.length 16,show decide ((100:Int)<(a.Bids.length:Int))=_ from lenD a.Bids.length 100];cases decide (a.Rule≤2) with
 | false=>rfl
 | true =>
  by_cases hl:a.Lots.length≤16
  ·rw [decide_eq_true hl]
   by_cases hb:a.Bids.length≤100
   ·rw [decide_eq_true hb];have h1:f31n1 a=some (bif okL none a.Lots then .norm else .ret):=by
     unfold f31n1;have:=f31n4_at (a:=a) (by omega) a.Lots [] FUEL rfl (Qbf (by omega));rw [show (((([]:List AL).length:Nat)):Int)=0 from rfl,List.getLast?_nil] at this;rw [this];cases okL none a.Lots<;>rfl
    rw [h1];cases ho:okL none a.Lots with
    | false=>rfl
    | true =>
     have h2:f31n5 a=some (bif a.Bids.all (bidB a.Lots) then .norm else .ret):=by
      unfold f31n5;rw [f31n6_run a (Qcd (by omega)),f31w_eq (okL_none ho).1 (by omega)];cases a.Bids.all (bidB a.Lots)<;>rfl
     simp only [cond_true,cond_false,Bool.not_true,Option.bind_some,h2,Bool.true_and];cases a.Bids.all (bidB a.Lots)<;>rfl
   ·rw [decide_eq_false hb]; rfl
  ·rw [decide_eq_false hl]; rfl
structure Vl (a:AA):Prop where
 rule:a.Rule≤2
 nl:a.Lots.length≤16
 nb:a.Bids.length≤100
 srt:SSrt a.Lots
 lots:∀x∈a.Lots,nmB x.Name=true∧1≤x.Units∧x.Units≤1048576∧0≤x.Reserve∧x.Reserve≤33554432
 bids:∀b∈a.Bids,(∃x∈a.Lots,x.Name=b.Lot)∧1≤b.Units∧b.Units≤1048576∧0≤b.Price∧b.Price≤33554432
theorem okA_vl{a:AA}(h:okA a=true):Vl a:=by
 unfold okA at h;simp only [Bool.and_eq_true,decide_eq_true_eq] at h;obtain ⟨h1,h2,h3,h4,h5⟩:=h;obtain ⟨h6,h7⟩:=okL_none h4;refine ⟨h1,h2,h3,h6,fun x hx=>?_,fun b hb=>?_⟩
 ·have:=h7 x hx;unfold inL at this;simp only [Bool.and_eq_true,decide_eq_true_eq] at this;exact ⟨this.1,this.2.1.1,this.2.1.2,this.2.2.1,this.2.2.2⟩
 ·have:=List.all_eq_true.1 h5 b hb;unfold bidB gdB at this;simp only [Bool.and_eq_true,decide_eq_true_eq] at this;obtain ⟨k1,_,_,k2,k3⟩:=this;obtain ⟨x,hx⟩:=Option.isSome_iff_exists.1 k1;have:=lotN_mem hx;exact ⟨⟨x,this.1,this.2⟩,k2.1,k2.2,k3.1,k3.2⟩
end Go.Proofs.Ythpceddjepbamaa
namespace Go.Proofs.Ythpceddjepbamaa
set_option linter.unusedVariables false
set_option linter.unusedSimpArgs false
open Go.RowKit
def sc(x y:SH):Int:=cmpI y.bid.Price x.bid.Price
theorem f55_eq(x y:SH):f55 x y=some (sc x y):=by unfold f55 f55n0; rw [f39_eq]; rfl
abbrev ltS:SH→SH→Bool:=fun x y=>decide (sc x y<0)
theorem ltS_iff{x y:SH} : ltS x y=true↔y.bid.Price<x.bid.Price:=by
 unfold ltS sc;rw [decide_eq_true_eq,cmpI_neg]
theorem ltS_not{x y:SH} : ltS x y=false↔x.bid.Price≤y.bid.Price:=by
 rw [←Bool.not_eq_true,ltS_iff]; omega
theorem swoS:SWo ltS where
 irr x:=ltS_not.2 (Int.le_refl _)
 tr h k:=by rw [ltS_iff] at *; omega
 nt h k:=by rw [ltS_not] at *; omega
def bef(x y:SH):Bool:=decide (y.bid.Price<x.bid.Price)||(decide (x.bid.Price=y.bid.Price)&&decide (x.index<y.index))
theorem bef_iff{x y:SH} : bef x y=true↔y.bid.Price<x.bid.Price∨x.bid.Price=y.bid.Price∧x.index<y.index:=by
 unfold bef;simp only [Bool.or_eq_true,Bool.and_eq_true,decide_eq_true_eq]
theorem bef_irr(x:SH):bef x x=false:=by
 rw [←Bool.not_eq_true,bef_iff]; omega
theorem bef_asym{x y:SH}(h:bef x y=true):bef y x=false:=by
 rw [←Bool.not_eq_true]; rw [bef_iff] at *; omega
theorem bef_tr{x y z:SH}(h:bef x y=true)(k:bef y z=true):bef x z=true:=by
 rw [bef_iff] at *; omega
abbrev Idx(l:List SH):Prop:=l.Pairwise fun x y=>x.index<y.index
abbrev Bef(l:List SH):Prop:=l.Pairwise fun x y=>bef x y=true
theorem ins_mem{x z:SH} : ∀{l:List SH},z∈insS ltS x l↔z=x∨z∈l:=fun {l}=>by
 rw [(insS_perm x l).mem_iff,List.mem_cons]
theorem ins_bef{x:SH} : ∀{l:List SH},(∀y∈l,x.index<y.index)→Bef l→Bef (insS ltS x l)
 | [],_,_=>by simp [insS]
 | y::r,hi,h=>by
  have h':=List.pairwise_cons.1 h;rw [insS];cases hl:ltS y x with
  | true =>
   rw [cond_true];refine List.pairwise_cons.2 ⟨fun z hz=>?_,ins_bef (fun z hz=>hi z (List.mem_cons_of_mem _ hz)) h'.2⟩;rcases ins_mem.1 hz with rfl | hz
   ·rw [bef_iff]; rw [ltS_iff] at hl; exact .inl hl
   ·exact h'.1 z hz
  | false =>
   rw [cond_false];have hx:bef x y=true:=by
    have:=hi y List.mem_cons_self;rw [ltS_not] at hl;rw [bef_iff]; omega
   refine List.pairwise_cons.2 ⟨fun z hz=>?_,h⟩;rcases List.mem_cons.1 hz with rfl | hz
   ·exact hx
   ·exact bef_tr hx (h'.1 z hz)
theorem sort_bef:∀{l:List SH},Idx l→Bef (Qaz ltS l)
 | [],_=>by simp [Qaz]
 | x::r,h=>by
  have h':=List.pairwise_cons.1 h;rw [Qaz];exact ins_bef (fun y hy=>h'.1 y ((Qbm swoS r).mem.1 hy)) (sort_bef h'.2)
theorem f54_eq{l:List SH}(h:l.length≤500000):f54r1 l=some (Qaz ltS l):=st_sorted f55_eq swoS l h

def zs:List AB→Int→List SH
 | [],_=>[]
 | b::r,i=>⟨i,0,b⟩::zs r (i+1)
def rk(l:AL)(s:SH):Bool:=seq s.bid.Lot l.Name&&decide (l.Reserve≤s.bid.Price)
theorem zs_len:∀(l:List AB)(i:Int),(zs l i).length=l.length
 | [],_=>rfl
 | b::r,i=>by rw [zs,List.length_cons,List.length_cons,zs_len r]
theorem zs_idx:∀(l:List AB)(i:Int),Idx (zs l i)∧∀s∈zs l i,i≤s.index∧s.index<i+l.length∧s.units=0∧l[(s.index-i).toNat]?=some s.bid
 | [],_=>by simp [zs]
 | b::r,i=>by
  obtain ⟨h1,h2⟩:=zs_idx r (i+1);rw [zs];refine ⟨List.pairwise_cons.2 ⟨fun s hs=>?_,h1⟩,fun s hs=>?_⟩
  ·have:=h2 s hs; show i<s.index; omega
  ·rcases List.mem_cons.1 hs with rfl | hs
   ·simp; omega
   ·obtain ⟨k1,k2,k3,k4⟩:=h2 s hs;refine ⟨by omega,by rw [List.length_cons]; omega,k3,?_⟩;rw [show (s.index-i).toNat=(s.index-(i+1)).toNat+1 by omega,List.getElem?_cons_succ];exact k4
theorem zs_mem{l:List AB}{i:Int}{s:SH}(h:s∈zs l i):s.bid∈l:=List.mem_of_getElem? ((zs_idx l i).2 s h).2.2.2
def all_(bs:List AB)(l:AL):List SH:=(zs bs 0).filter (rk l)
def rkd(bs:List AB)(l:AL):List SH:=Qaz ltS (all_ bs l)
theorem rkd_perm(bs:List AB)(l:AL):(rkd bs l).Perm (all_ bs l):=(Qbm swoS _).1
theorem all_ln(bs:List AB)(l:AL):(all_ bs l).length≤bs.length:=by
 have:=List.length_filter_le (rk l) (zs bs 0)
 rwa [zs_len] at this
theorem rkd_len(bs:List AB)(l:AL):(rkd bs l).length≤bs.length:=by
 rw [(rkd_perm bs l).length_eq]; exact all_ln bs l
theorem rkd_bef(bs:List AB)(l:AL):Bef (rkd bs l):=sort_bef (List.Pairwise.filter _ (zs_idx bs 0).1)
theorem Qch{bs:List AB}{l:AL}{s:SH} : s∈rkd bs l↔s∈zs bs 0∧rk l s=true:=by
 rw [(rkd_perm bs l).mem_iff]; exact List.mem_filter

theorem mnI_eq(a b:Int):mnI a b=min a b:=by
 by_cases h:b<a
 ·rw [mnI,decide_eq_true h,cond_true]; omega
 ·rw [mnI,decide_eq_false h,cond_false]; omega
def tk(p:SH→Int):Int→List SH→List AW
 | _,[]=>[]
 | n,s::r=>bif decide (min n s.bid.Units=0) then [] else ⟨s.index,min n s.bid.Units,p s⟩::tk p (n-min n s.bid.Units) r
def lowP:Int→Int→List SH→Int
 | p,_,[]=>p
 | p,n,s::r=>lowP (bif decide (0<min n s.bid.Units) then s.bid.Price else p) (n-min n s.bid.Units) r
def rejP(p:Int):Int→List SH→Int
 | _,[]=>p
 | n,s::r=>bif decide (min n s.bid.Units<s.bid.Units) then s.bid.Price else rejP p (n-min n s.bid.Units) r
abbrev uOk(r:List SH):Prop:=∀s∈r,1≤s.bid.Units∧s.bid.Units≤1048576

theorem f53r1_c(a:AA)(l:AL)(p:Int):∀(r:List AB)(i:Int)(acc:List SH),acc.length+r.length≤1000→f53r1n2L a l p r i acc=some (.exit0 (acc++(zs r i).filter (rk l)))
 | [],i,acc,_=>by rw [f53r1n2L,zs,List.filter_nil,List.append_nil]
 | b::r,i,acc,h=>by
  rw [List.length_cons] at h;rw [f53r1n2L,zs,List.filter_cons];have hr:rk l ⟨i,0,b⟩=(seq b.Lot l.Name&&decide (l.Reserve≤b.Price)):=rfl;rw [hr];cases seq b.Lot l.Name with
  | false=>exact f53r1_c a l p r (i+1) acc (by omega)
  | true =>
   cases decide (l.Reserve≤b.Price) with
   | false=>exact f53r1_c a l p r (i+1) acc (by omega)
   | true =>
    simp only [cond_true,Bool.and_self,if_true];rw [req,fitSmall (by omega) (by omega),cond_true,f53r1_c a l p r (i+1) (acc++[(⟨i,0,b⟩:SH)]) (by rw [List.length_append]; simp; omega),List.append_assoc]; rfl
theorem f53r1_1(a:AA)(l:AL)(p:Int)(h:a.Bids.length≤1000):(f53r1n1 a l p).bind (fun o=>match o with | .norm v=>f54r1 v)=some (rkd a.Bids l):=by
 unfold f53r1n1;rw [f53r1n2_run a l p [] (Qcd (by omega)),f53r1_c a l p a.Bids 0 [] (by simp; omega)];simp only [Option.bind_some,List.nil_append];exact f54_eq (by have:=all_ln a.Bids l; unfold all_ at this; omega)
theorem f53r1_2(a:AA)(l:AL)(p:Int)(h:a.Bids.length≤1000){γ:Type}(k:List SH→Option γ):((f53r1n1 a l p).bind fun o=>match o with | .norm v=>(f54r1 v).bind k)=k (rkd a.Bids l):=by
 have:=f53r1_1 a l p h;cases e:f53r1n1 a l p with
 | none=>rw [e] at this; cases this
 | some o =>
  cases o with
  | norm v =>
   rw [e] at this;simp only [Option.bind_some] at this ⊢;rw [this]; rfl

theorem f53r3_c(a:AA)(l:AL)(p:Int):∀(r:List AB)(i:Int)(acc:List SH),acc.length+r.length≤1000→f53r3n2L a l p r i acc=some (.exit0 (acc++(zs r i).filter (rk l)))
 | [],i,acc,_=>by rw [f53r3n2L,zs,List.filter_nil,List.append_nil]
 | b::r,i,acc,h=>by
  rw [List.length_cons] at h;rw [f53r3n2L,zs,List.filter_cons];have hr:rk l ⟨i,0,b⟩=(seq b.Lot l.Name&&decide (l.Reserve≤b.Price)):=rfl;rw [hr];cases seq b.Lot l.Name with
  | false=>exact f53r3_c a l p r (i+1) acc (by omega)
  | true =>
   cases decide (l.Reserve≤b.Price) with
   | false=>exact f53r3_c a l p r (i+1) acc (by omega)
   | true =>
    simp only [cond_true,Bool.and_self,if_true];rw [req,fitSmall (by omega) (by omega),cond_true,f53r3_c a l p r (i+1) (acc++[(⟨i,0,b⟩:SH)]) (by rw [List.length_append]; simp; omega),List.append_assoc]; rfl
theorem f53r3_1(a:AA)(l:AL)(p:Int)(h:a.Bids.length≤1000):(f53r3n1 a l p).bind (fun o=>match o with | .norm v=>f54r1 v)=some (rkd a.Bids l):=by
 unfold f53r3n1;rw [f53r3n2_run a l p [] (Qcd (by omega)),f53r3_c a l p a.Bids 0 [] (by simp; omega)];simp only [Option.bind_some,List.nil_append];exact f54_eq (by have:=all_ln a.Bids l; unfold all_ at this; omega)
theorem f53r3_2(a:AA)(l:AL)(p:Int)(h:a.Bids.length≤1000){γ:Type}(k:List SH→Option γ):((f53r3n1 a l p).bind fun o=>match o with | .norm v=>(f54r1 v).bind k)=k (rkd a.Bids l):=by
 have:=f53r3_1 a l p h;cases e:f53r3n1 a l p with
 | none=>rw [e] at this; cases this
 | some o =>
  cases o with
  | norm v =>
   rw [e] at this;simp only [Option.bind_some] at this ⊢;rw [this]; rfl


theorem f53r6_c(a:AA)(l:AL)(p:Int)(o:List AW):∀(r:List AB)(i:Int)(acc:List SH),acc.length+r.length≤1000→f53r6n2L a l p o r i acc=some (.exit0 (acc++(zs r i).filter (rk l)))
 | [],i,acc,_=>by rw [f53r6n2L,zs,List.filter_nil,List.append_nil]
 | b::r,i,acc,h=>by
  rw [List.length_cons] at h;rw [f53r6n2L,zs,List.filter_cons];have hr:rk l ⟨i,0,b⟩=(seq b.Lot l.Name&&decide (l.Reserve≤b.Price)):=rfl;rw [hr];cases seq b.Lot l.Name with
  | false=>exact f53r6_c a l p o r (i+1) acc (by omega)
  | true =>
   cases decide (l.Reserve≤b.Price) with
   | false=>exact f53r6_c a l p o r (i+1) acc (by omega)
   | true =>
    simp only [cond_true,Bool.and_self,if_true];rw [req,fitSmall (by omega) (by omega),cond_true,f53r6_c a l p o r (i+1) (acc++[(⟨i,0,b⟩:SH)]) (by rw [List.length_append]; simp; omega),List.append_assoc]; rfl
theorem f53r6_1(a:AA)(l:AL)(p:Int)(o:List AW)(h:a.Bids.length≤1000):(f53r6n1 a l p o).bind (fun o=>match o with | .norm v=>f54r1 v)=some (rkd a.Bids l):=by
 unfold f53r6n1;rw [f53r6n2_run a l p o [] (Qcd (by omega)),f53r6_c a l p o a.Bids 0 [] (by simp; omega)];simp only [Option.bind_some,List.nil_append];exact f54_eq (by have:=all_ln a.Bids l; unfold all_ at this; omega)
theorem f53r6_2(a:AA)(l:AL)(p:Int)(o:List AW)(h:a.Bids.length≤1000){γ:Type}(k:List SH→Option γ):((f53r6n1 a l p o).bind fun o=>match o with | .norm v=>(f54r1 v).bind k)=k (rkd a.Bids l):=by
 have:=f53r6_1 a l p o h;cases e:f53r6n1 a l p o with
 | none=>rw [e] at this; cases this
 | some o =>
  cases o with
  | norm v =>
   rw [e] at this;simp only [Option.bind_some] at this ⊢;rw [this]; rfl

theorem f53r7_c(a:AA)(l:AL)(p:Int)(o:List AW):∀(r:List AB)(i:Int)(acc:List SH),acc.length+r.length≤1000→f53r7n2L a l p o r i acc=some (.exit0 (acc++(zs r i).filter (rk l)))
 | [],i,acc,_=>by rw [f53r7n2L,zs,List.filter_nil,List.append_nil]
 | b::r,i,acc,h=>by
  rw [List.length_cons] at h;rw [f53r7n2L,zs,List.filter_cons];have hr:rk l ⟨i,0,b⟩=(seq b.Lot l.Name&&decide (l.Reserve≤b.Price)):=rfl;rw [hr];cases seq b.Lot l.Name with
  | false=>exact f53r7_c a l p o r (i+1) acc (by omega)
  | true =>
   cases decide (l.Reserve≤b.Price) with
   | false=>exact f53r7_c a l p o r (i+1) acc (by omega)
   | true =>
    simp only [cond_true,Bool.and_self,if_true];rw [req,fitSmall (by omega) (by omega),cond_true,f53r7_c a l p o r (i+1) (acc++[(⟨i,0,b⟩:SH)]) (by rw [List.length_append]; simp; omega),List.append_assoc]; rfl
theorem f53r7_1(a:AA)(l:AL)(p:Int)(o:List AW)(h:a.Bids.length≤1000):(f53r7n1 a l p o).bind (fun o=>match o with | .norm v=>f54r1 v)=some (rkd a.Bids l):=by
 unfold f53r7n1;rw [f53r7n2_run a l p o [] (Qcd (by omega)),f53r7_c a l p o a.Bids 0 [] (by simp; omega)];simp only [Option.bind_some,List.nil_append];exact f54_eq (by have:=all_ln a.Bids l; unfold all_ at this; omega)
theorem f53r7_2(a:AA)(l:AL)(p:Int)(o:List AW)(h:a.Bids.length≤1000){γ:Type}(k:List SH→Option γ):((f53r7n1 a l p o).bind fun o=>match o with | .norm v=>(f54r1 v).bind k)=k (rkd a.Bids l):=by
 have:=f53r7_1 a l p o h;cases e:f53r7n1 a l p o with
 | none=>rw [e] at this; cases this
 | some o =>
  cases o with
  | norm v =>
   rw [e] at this;simp only [Option.bind_some] at this ⊢;rw [this]; rfl

theorem f53r8_c(a:AA)(l:AL)(p:Int)(o:List AW):∀(r:List AB)(i:Int)(acc:List SH),acc.length+r.length≤1000→f53r8n2L a l p o r i acc=some (.exit0 (acc++(zs r i).filter (rk l)))
 | [],i,acc,_=>by rw [f53r8n2L,zs,List.filter_nil,List.append_nil]
 | b::r,i,acc,h=>by
  rw [List.length_cons] at h;rw [f53r8n2L,zs,List.filter_cons];have hr:rk l ⟨i,0,b⟩=(seq b.Lot l.Name&&decide (l.Reserve≤b.Price)):=rfl;rw [hr];cases seq b.Lot l.Name with
  | false=>exact f53r8_c a l p o r (i+1) acc (by omega)
  | true =>
   cases decide (l.Reserve≤b.Price) with
   | false=>exact f53r8_c a l p o r (i+1) acc (by omega)
   | true =>
    simp only [cond_true,Bool.and_self,if_true];rw [req,fitSmall (by omega) (by omega),cond_true,f53r8_c a l p o r (i+1) (acc++[(⟨i,0,b⟩:SH)]) (by rw [List.length_append]; simp; omega),List.append_assoc]; rfl
theorem f53r8_1(a:AA)(l:AL)(p:Int)(o:List AW)(h:a.Bids.length≤1000):(f53r8n1 a l p o).bind (fun o=>match o with | .norm v=>f54r1 v)=some (rkd a.Bids l):=by
 unfold f53r8n1;rw [f53r8n2_run a l p o [] (Qcd (by omega)),f53r8_c a l p o a.Bids 0 [] (by simp; omega)];simp only [Option.bind_some,List.nil_append];exact f54_eq (by have:=all_ln a.Bids l; unfold all_ at this; omega)
theorem f53r8_2(a:AA)(l:AL)(p:Int)(o:List AW)(h:a.Bids.length≤1000){γ:Type}(k:List SH→Option γ):((f53r8n1 a l p o).bind fun o=>match o with | .norm v=>(f54r1 v).bind k)=k (rkd a.Bids l):=by
 have:=f53r8_1 a l p o h;cases e:f53r8n1 a l p o with
 | none=>rw [e] at this; cases this
 | some o =>
  cases o with
  | norm v =>
   rw [e] at this;simp only [Option.bind_some] at this ⊢;rw [this]; rfl
theorem f53r6_l(a:AA)(l:AL)(p:Int){xs:List SH}(hx:xs.length≤1000)(ho:uOk xs):∀(r:List SH)(f k:Nat)(n:Int)(o:List AW),xs.drop k=r→r.length<f→0≤n→n≤1048576→o.length+r.length≤100000 →
  ∃z,f53r6n4 f xs a l p n (k:Int) o=some z∧(z = .exit2 (o++tk (fun _=>p) n r)∨z = .ret (o++tk (fun _=>p) n r))
 | _,0,_,_,_,_,h,_,_,_=>absurd h (Nat.not_lt_zero _)
 | [],f+1,k,n,o,hd,_,_,_,_=>by
  have:=Qan hd;rw [f53r6n4,decide_eq_false (by omega),cond_false,tk,List.append_nil];exact ⟨_,rfl,.inl rfl⟩
 | s::r,f+1,k,n,o,hd,hf,h0,h1,hl=>by
  have hk:=dropAt hd;have hu:=ho s (List.mem_of_mem_drop (hd ▸ List.mem_cons_self));have hn':0≤n-min n s.bid.Units∧n-min n s.bid.Units≤1048576:=by omega
  have hw:wr64 (n-min n s.bid.Units)=n-min n s.bid.Units:=wrIn (by omega) (by omega);rw [f53r6n4,decide_eq_true (by have:=hk.2.1; omega),cond_true];unfold f53r6n3 f12y2n0;rw [hk.1];simp only [Option.bind_some,mnI_eq,hw];rw [tk]
  by_cases hz:min n s.bid.Units=0
  ·rw [decide_eq_true hz];exact ⟨_,rfl,.inr (by rw [cond_true,List.append_nil])⟩
  ·rw [decide_eq_false hz,cond_false,cond_false,req,fitSmall (by simp at hl; omega) (by omega),cond_true,wrSucc (by have:=hk.2.1; omega)];obtain ⟨z,e1,e2⟩:=f53r6_l a l p hx ho r f (k+1) (n-min n s.bid.Units) (o++[⟨s.index,min n s.bid.Units,p⟩]) hk.2.2 (by simpa using hf) hn'.1 hn'.2 (by simp at hl ⊢; omega);rw [List.append_assoc] at e2;exact ⟨z,e1,e2⟩
theorem f53r6_eq{a:AA}{l:AL}(p:Int)(o:List AW)(hb:a.Bids.length≤100)(hu:∀b∈a.Bids,1≤b.Units∧b.Units≤1048576)(h0:0≤l.Units)(h1:l.Units≤1048576)(hl:o.length≤10000) :
  ∃q,f53r6 a l p o=some (q,o++tk (fun _=>p) l.Units (rkd a.Bids l)):=by
 have hr:=rkd_len a.Bids l;obtain ⟨z,e1,e2⟩:=f53r6_l a l p (xs:=rkd a.Bids l) (by omega) (fun s hs=>hu _ (zs_mem (Qch.1 hs).1)) (rkd a.Bids l) FUEL 0 l.Units o rfl (Qbf (by omega)) h0 h1 (by omega);have e1':f53r6n4 FUEL (rkd a.Bids l) a l p l.Units 0 o=some z:=e1;unfold f53r6 f53r6n0;rw [f53r6_2 a l p o (by omega),e1'];rcases e2 with rfl | rfl
 ·exact ⟨_,rfl⟩
 ·exact ⟨_,rfl⟩
theorem f53r7_l(a:AA)(l:AL)(p:Int){xs:List SH}(hx:xs.length≤1000)(ho:uOk xs):∀(r:List SH)(f k:Nat)(n:Int)(o:List AW),xs.drop k=r→r.length<f→0≤n→n≤1048576→o.length+r.length≤100000 →
  ∃z,f53r7n4 f xs a l p n (k:Int) o=some z∧(z = .exit2 (o++tk (fun _=>p) n r)∨z = .ret (o++tk (fun _=>p) n r))
 | _,0,_,_,_,_,h,_,_,_=>absurd h (Nat.not_lt_zero _)
 | [],f+1,k,n,o,hd,_,_,_,_=>by
  have:=Qan hd;rw [f53r7n4,decide_eq_false (by omega),cond_false,tk,List.append_nil];exact ⟨_,rfl,.inl rfl⟩
 | s::r,f+1,k,n,o,hd,hf,h0,h1,hl=>by
  have hk:=dropAt hd;have hu:=ho s (List.mem_of_mem_drop (hd ▸ List.mem_cons_self));have hn':0≤n-min n s.bid.Units∧n-min n s.bid.Units≤1048576:=by omega
  have hw:wr64 (n-min n s.bid.Units)=n-min n s.bid.Units:=wrIn (by omega) (by omega);rw [f53r7n4,decide_eq_true (by have:=hk.2.1; omega),cond_true];unfold f53r7n3 f12y4n0;rw [hk.1];simp only [Option.bind_some,mnI_eq,hw];rw [tk]
  by_cases hz:min n s.bid.Units=0
  ·rw [decide_eq_true hz];exact ⟨_,rfl,.inr (by rw [cond_true,List.append_nil])⟩
  ·rw [decide_eq_false hz,cond_false,cond_false,req,fitSmall (by simp at hl; omega) (by omega),cond_true,wrSucc (by have:=hk.2.1; omega)];obtain ⟨z,e1,e2⟩:=f53r7_l a l p hx ho r f (k+1) (n-min n s.bid.Units) (o++[⟨s.index,min n s.bid.Units,p⟩]) hk.2.2 (by simpa using hf) hn'.1 hn'.2 (by simp at hl ⊢; omega);rw [List.append_assoc] at e2;exact ⟨z,e1,e2⟩
theorem f53r7_eq{a:AA}{l:AL}(p:Int)(o:List AW)(hb:a.Bids.length≤100)(hu:∀b∈a.Bids,1≤b.Units∧b.Units≤1048576)(h0:0≤l.Units)(h1:l.Units≤1048576)(hl:o.length≤10000) :
  ∃q,f53r7 a l p o=some (q,o++tk (fun _=>p) l.Units (rkd a.Bids l)):=by
 have hr:=rkd_len a.Bids l;obtain ⟨z,e1,e2⟩:=f53r7_l a l p (xs:=rkd a.Bids l) (by omega) (fun s hs=>hu _ (zs_mem (Qch.1 hs).1)) (rkd a.Bids l) FUEL 0 l.Units o rfl (Qbf (by omega)) h0 h1 (by omega);have e1':f53r7n4 FUEL (rkd a.Bids l) a l p l.Units 0 o=some z:=e1;unfold f53r7 f53r7n0;rw [f53r7_2 a l p o (by omega),e1'];rcases e2 with rfl | rfl
 ·exact ⟨_,rfl⟩
 ·exact ⟨_,rfl⟩
theorem f53r8_l(a:AA)(l:AL)(p:Int){xs:List SH}(hx:xs.length≤1000)(ho:uOk xs):∀(r:List SH)(f k:Nat)(n:Int)(o:List AW),xs.drop k=r→r.length<f→0≤n→n≤1048576→o.length+r.length≤100000 →
  ∃z,f53r8n4 f xs a l p n (k:Int) o=some z∧(z = .exit2 (o++tk (fun s=>s.bid.Price) n r)∨z = .ret (o++tk (fun s=>s.bid.Price) n r))
 | _,0,_,_,_,_,h,_,_,_=>absurd h (Nat.not_lt_zero _)
 | [],f+1,k,n,o,hd,_,_,_,_=>by
  have:=Qan hd;rw [f53r8n4,decide_eq_false (by omega),cond_false,tk,List.append_nil];exact ⟨_,rfl,.inl rfl⟩
 | s::r,f+1,k,n,o,hd,hf,h0,h1,hl=>by
  have hk:=dropAt hd;have hu:=ho s (List.mem_of_mem_drop (hd ▸ List.mem_cons_self));have hn':0≤n-min n s.bid.Units∧n-min n s.bid.Units≤1048576:=by omega
  have hw:wr64 (n-min n s.bid.Units)=n-min n s.bid.Units:=wrIn (by omega) (by omega);rw [f53r8n4,decide_eq_true (by have:=hk.2.1; omega),cond_true];unfold f53r8n3 f12y6n0;rw [hk.1];simp only [Option.bind_some,mnI_eq,hw];rw [tk]
  by_cases hz:min n s.bid.Units=0
  ·rw [decide_eq_true hz];exact ⟨_,rfl,.inr (by rw [cond_true,List.append_nil])⟩
  ·rw [decide_eq_false hz,cond_false,cond_false,req,fitSmall (by simp at hl; omega) (by omega),cond_true,wrSucc (by have:=hk.2.1; omega)];obtain ⟨z,e1,e2⟩:=f53r8_l a l p hx ho r f (k+1) (n-min n s.bid.Units) (o++[⟨s.index,min n s.bid.Units,s.bid.Price⟩]) hk.2.2 (by simpa using hf) hn'.1 hn'.2 (by simp at hl ⊢; omega);rw [List.append_assoc] at e2;exact ⟨z,e1,e2⟩
theorem f53r8_eq{a:AA}{l:AL}(p:Int)(o:List AW)(hb:a.Bids.length≤100)(hu:∀b∈a.Bids,1≤b.Units∧b.Units≤1048576)(h0:0≤l.Units)(h1:l.Units≤1048576)(hl:o.length≤10000) :
  ∃q,f53r8 a l p o=some (q,o++tk (fun s=>s.bid.Price) l.Units (rkd a.Bids l)):=by
 have hr:=rkd_len a.Bids l;obtain ⟨z,e1,e2⟩:=f53r8_l a l p (xs:=rkd a.Bids l) (by omega) (fun s hs=>hu _ (zs_mem (Qch.1 hs).1)) (rkd a.Bids l) FUEL 0 l.Units o rfl (Qbf (by omega)) h0 h1 (by omega);have e1':f53r8n4 FUEL (rkd a.Bids l) a l p l.Units 0 o=some z:=e1;unfold f53r8 f53r8n0;rw [f53r8_2 a l p o (by omega),e1'];rcases e2 with rfl | rfl
 ·exact ⟨_,rfl⟩
 ·exact ⟨_,rfl⟩
theorem f53r1_l(a:AA)(l:AL){xs:List SH}(hx:xs.length≤1000)(ho:uOk xs):∀(r:List SH)(f k:Nat)(n p:Int),xs.drop k=r→r.length<f→0≤n→n≤1048576 →
  f53r1n4 f xs a l n (k:Int) p=some (.exit2 (lowP p n r))
 | _,0,_,_,_,_,h,_,_=>absurd h (Nat.not_lt_zero _)
 | [],f+1,k,n,p,hd,_,_,_=>by
  have:=Qan hd;rw [f53r1n4,decide_eq_false (by omega),cond_false,lowP]
 | s::r,f+1,k,n,p,hd,hf,h0,h1=>by
  have hk:=dropAt hd;have hu:=ho s (List.mem_of_mem_drop (hd ▸ List.mem_cons_self));have hn':0≤n-min n s.bid.Units∧n-min n s.bid.Units≤1048576:=by omega
  have hw:wr64 (n-min n s.bid.Units)=n-min n s.bid.Units:=wrIn (by omega) (by omega);rw [f53r1n4,decide_eq_true (by have:=hk.2.1; omega),cond_true];unfold f53r1n3 f56y1n0;rw [hk.1];simp only [Option.bind_some,mnI_eq,hw];rw [lowP];cases decide (0<min n s.bid.Units)<;>simp only [cond_true,cond_false,Option.bind_some]<;>rw [wrSucc (by have:=hk.2.1; omega)]<;>exact f53r1_l a l hx ho r f (k+1) _ _ hk.2.2 (by simpa using hf) hn'.1 hn'.2
theorem f56_eq{a:AA}{l:AL}(hb:a.Bids.length≤100)(hu:∀b∈a.Bids,1≤b.Units∧b.Units≤1048576)(h0:0≤l.Units)(h1:l.Units≤1048576) :
  f56r1 l a=some (lowP l.Reserve l.Units (rkd a.Bids l)):=by
 have hr:=rkd_len a.Bids l;have e1:=f53r1_l a l (xs:=rkd a.Bids l) (by omega) (fun s hs=>hu _ (zs_mem (Qch.1 hs).1)) (rkd a.Bids l) FUEL 0 l.Units l.Reserve rfl (Qbf (by omega)) h0 h1;have e1':f53r1n4 FUEL (rkd a.Bids l) a l l.Units 0 l.Reserve=_:=e1;have e2:f53r1 a l l.Reserve=some (lowP l.Reserve l.Units (rkd a.Bids l)):=by
  unfold f53r1 f53r1n0;rw [f53r1_2 a l l.Reserve (by omega),e1']; rfl
 unfold f56r1 f56r1n0 f56r1n1 f56r1n2;rw [e2]; rfl
theorem f53r3_l(a:AA)(l:AL)(p:Int){xs:List SH}(hx:xs.length≤1000)(ho:uOk xs):∀(r:List SH)(f k:Nat)(n q:Int),xs.drop k=r→r.length<f→0≤n→n≤1048576 →
  ∃z,f53r3n4 f xs a l p n (k:Int)=some z∧(z = .exit2∧rejP q n r=q∨z = .ret (rejP q n r))
 | _,0,_,_,_,_,h,_,_=>absurd h (Nat.not_lt_zero _)
 | [],f+1,k,n,q,hd,_,_,_=>by
  have:=Qan hd;rw [f53r3n4,decide_eq_false (by omega),cond_false,rejP];exact ⟨_,rfl,.inl ⟨rfl,rfl⟩⟩
 | s::r,f+1,k,n,q,hd,hf,h0,h1=>by
  have hk:=dropAt hd;have hu:=ho s (List.mem_of_mem_drop (hd ▸ List.mem_cons_self));have hn':0≤n-min n s.bid.Units∧n-min n s.bid.Units≤1048576:=by omega
  have hw:wr64 (n-min n s.bid.Units)=n-min n s.bid.Units:=wrIn (by omega) (by omega);rw [f53r3n4,decide_eq_true (by have:=hk.2.1; omega),cond_true];unfold f53r3n3 f57y1n0;rw [hk.1];simp only [Option.bind_some,mnI_eq,hw];rw [rejP];cases decide (min n s.bid.Units<s.bid.Units) with
  | true=>exact ⟨_,rfl,.inr rfl⟩
  | false =>
   simp only [cond_false,Option.bind_some];rw [wrSucc (by have:=hk.2.1; omega)];exact f53r3_l a l p hx ho r f (k+1) _ q hk.2.2 (by simpa using hf) hn'.1 hn'.2
theorem f57_eq{a:AA}{l:AL}(hb:a.Bids.length≤100)(hu:∀b∈a.Bids,1≤b.Units∧b.Units≤1048576)(h0:0≤l.Units)(h1:l.Units≤1048576) :
  f57r1 l a=some (rejP l.Reserve l.Units (rkd a.Bids l)):=by
 have hr:=rkd_len a.Bids l;obtain ⟨z,e1,e3⟩:=f53r3_l a l 0 (xs:=rkd a.Bids l) (by omega) (fun s hs=>hu _ (zs_mem (Qch.1 hs).1)) (rkd a.Bids l) FUEL 0 l.Units l.Reserve rfl (Qbf (by omega)) h0 h1;have e1':f53r3n4 FUEL (rkd a.Bids l) a l 0 l.Units 0=some z:=e1;have e2:f53r3n0 a l 0=(some z).bind fun o=>match o with | .exit2=>some .norm | .ret v=>some (.ret v):=by
  unfold f53r3n0;rw [f53r3_2 a l 0 (by omega),e1'];cases z<;>rfl
 unfold f57r1 f57r1n0 f57r1n1 f57r1n2 f53r3;rw [e2];rcases e3 with ⟨rfl,e3⟩ | rfl
 ·rw [e3]; rfl
 ·rfl
end Go.Proofs.Ythpceddjepbamaa
namespace Go.Proofs.Ythpceddjepbamaa
set_option linter.unusedVariables false
set_option linter.unusedSimpArgs false
open Go.RowKit
theorem rk_iff{l:AL}{s:SH} : rk l s=true↔s.bid.Lot=l.Name∧l.Reserve≤s.bid.Price:=by
 unfold rk; rw [Bool.and_eq_true,seq_iff,decide_eq_true_eq]
def sumU:List SH→Int
 | []=>0
 | s::r=>s.bid.Units+sumU r
theorem sumU_app:∀a b:List SH,sumU (a++b)=sumU a+sumU b
 | [],b=>by simp [sumU]
 | x::a,b=>by rw [List.cons_append,sumU,sumU,sumU_app a b]; omega
theorem sumU_perm{a b:List SH}(h:a.Perm b):sumU a=sumU b:=by
 induction h with
 | nil=>rfl
 | cons x _ ih=>simp only [sumU,ih]
 | swap x y l=>simp only [sumU]; omega
 | trans _ _ h1 h2=>exact h1.trans h2
theorem sumU_le:∀{l:List SH} {p q:SH→Bool},uOk l→(∀s∈l,p s=true→q s=true)→sumU (l.filter p)≤sumU (l.filter q)
 | [],_,_,_,_=>by simp
 | x::r,p,q,h,k=>by
  have hx:=h x List.mem_cons_self;have ih:=sumU_le (l:=r) (p:=p) (q:=q) (fun s hs=>h s (List.mem_cons_of_mem _ hs)) fun s hs=>k s (List.mem_cons_of_mem _ hs);have kx:=k x List.mem_cons_self;rw [List.filter_cons,List.filter_cons];cases hp:p x with
  | true=>rw [kx hp]; simp only [if_true,sumU]; omega
  | false =>
   cases hq:q x with
   | true=>simp only [if_true,sumU]; simp; omega
   | false=>simpa using ih

def gt(n:Int)(T:List SH)(s:SH):Int:=min (max (n-sumU (T.filter fun t=>bef t s)) 0) s.bid.Units
theorem filt_pre{P r:List SH}{s:SH}(h:Bef (P++s::r)):(P++s::r).filter (fun t=>bef t s)=P:=by
 have h':=List.pairwise_append.1 h;have h2:=List.pairwise_cons.1 h'.2.1;rw [List.filter_append,List.filter_cons,bef_irr,List.filter_eq_self.2 (fun t ht=>h'.2.2 t ht s List.mem_cons_self),List.filter_eq_nil_iff.2 (fun t ht=>by rw [bef_asym (h2.1 t ht)]; simp)]
 simp
theorem tk_zero{p:SH→Int} : ∀{r:List SH},uOk r→tk p 0 r=[]
 | [],_=>rfl
 | s::r,h=>by rw [tk,decide_eq_true (by have:=h s List.mem_cons_self; omega),cond_true]
section
variable {U:Int} {T:List SH}
theorem gt_at{P r:List SH}{s:SH}(h:T=P++s::r)(hT:Bef T):gt U T s=min (max (U-sumU P) 0) s.bid.Units:=by
 unfold gt; rw [h,filt_pre (h ▸ hT)]
theorem step_n{P:List SH}{s:SH}{n:Int}(hn:n=max (U-sumU P) 0)(hs:1≤s.bid.Units):n-min n s.bid.Units=max (U-sumU (P++[s])) 0:=by
 rw [sumU_app]; simp only [sumU]; omega
theorem tk_eq(p:SH→Int)(hT:Bef T)(hu:uOk T):∀(r P:List SH)(n:Int),T=P++r→n=max (U-sumU P) 0 →
  tk p n r=(r.filter fun s=>!(decide (gt U T s=0))).map fun s=>⟨s.index,gt U T s,p s⟩
 | [],_,_,_,_=>rfl
 | s::r,P,n,h,hn=>by
  have hs:=hu s (by rw [h]; simp);have hg:=gt_at (U:=U) h hT;rw [←hn] at hg;have ih:=tk_eq p hT hu r (P++[s]) (n-min n s.bid.Units) (by rw [h]; simp) (step_n hn hs.1);rw [tk,List.filter_cons,hg]
  by_cases hz:min n s.bid.Units=0
  ·rw [decide_eq_true hz,cond_true,Bool.not_true];have hn0:n-min n s.bid.Units=0:=by omega
   rw [hn0,tk_zero (fun t ht=>hu t (by rw [h]; simp [ht]))] at ih;simpa using ih
  ·rw [decide_eq_false hz,cond_false,ih];simp [hg]
def low(q:Int)(W:List SH):Int:=W.foldl (fun _ s=>s.bid.Price) q
theorem lowP_eq(hT:Bef T)(hu:uOk T):∀(r P:List SH)(n q:Int),T=P++r→n=max (U-sumU P) 0 →
  lowP q n r=low q (r.filter fun s=>!(decide (gt U T s=0)))
 | [],_,_,_,_,_=>rfl
 | s::r,P,n,q,h,hn=>by
  have hs:=hu s (by rw [h]; simp);have hg:=gt_at (U:=U) h hT;rw [←hn] at hg;rw [lowP,lowP_eq hT hu r (P++[s]) (n-min n s.bid.Units) _ (by rw [h]; simp) (step_n hn hs.1),List.filter_cons,hg]
  by_cases hz:min n s.bid.Units=0
  ·rw [decide_eq_true hz,decide_eq_false (by omega)]; rfl
  ·rw [decide_eq_false hz,decide_eq_true (by omega)]; rfl
def rej(q:Int)(g:SH→Int)(T:List SH):Int:=match T.find? (fun s=>decide (g s<s.bid.Units)) with | some s=>s.bid.Price | none=>q
theorem rejP_eq(hT:Bef T)(hu:uOk T)(q:Int):∀(r P:List SH)(n:Int),T=P++r→n=max (U-sumU P) 0→rejP q n r=rej q (gt U T) r
 | [],_,_,_,_=>rfl
 | s::r,P,n,h,hn=>by
  have hs:=hu s (by rw [h]; simp);have hg:=gt_at (U:=U) h hT;rw [←hn] at hg;rw [rejP,rejP_eq hT hu q r (P++[s]) (n-min n s.bid.Units) (by rw [h]; simp) (step_n hn hs.1),rej,rej,List.find?_cons,hg];cases decide (min n s.bid.Units<s.bid.Units)<;>rfl
def sumG(g:SH→Int):List SH→Int
 | []=>0
 | s::r=>g s+sumG g r
end
def rkG(bs:List AB)(l:AL)(s:SH):Int:=gt l.Units (rkd bs l) s
def won(bs:List AB)(l:AL):List SH:=(rkd bs l).filter fun s=>!(decide (rkG bs l s=0))
def lowA(bs:List AB)(l:AL):Int:=low l.Reserve (won bs l)
def rejA(bs:List AB)(l:AL):Int:=rej l.Reserve (rkG bs l) (rkd bs l)
def prc(rule:Int)(bs:List AB)(l:AL)(s:SH):Int:=bif decide (rule=1) then lowA bs l else bif decide (rule=2) then rejA bs l else s.bid.Price
def awL(rule:Int)(bs:List AB)(l:AL):List AW:=(won bs l).map fun s=>⟨s.index,rkG bs l s,prc rule bs l s⟩
theorem rkd_uok{bs:List AB}{l:AL}(hu:∀b∈bs,1≤b.Units∧b.Units≤1048576):uOk (rkd bs l):=fun s hs=>hu _ (zs_mem (Qch.1 hs).1)
theorem tkA{bs:List AB}{l:AL}(hu:∀b∈bs,1≤b.Units∧b.Units≤1048576)(h0:0≤l.Units)(p:SH→Int):tk p l.Units (rkd bs l)=(won bs l).map fun s=>⟨s.index,rkG bs l s,p s⟩ :=
 tk_eq p (rkd_bef bs l) (rkd_uok hu) (rkd bs l) [] l.Units rfl (by simp [sumU]; omega)
theorem f12n2_eq{a:AA}(hv:Vl a){k:Nat}{l:AL}(hk:at? a.Lots (k:Int)=some l)(hm:l∈a.Lots)(o:List AW)(ho:o.length≤10000):f12n2 a (k:Int) o=some (.norm (o++awL a.Rule a.Bids l)):=by
 have hu:∀b∈a.Bids,1≤b.Units∧b.Units≤1048576:=fun b hb=>⟨(hv.bids b hb).2.1,(hv.bids b hb).2.2.1⟩;have hl:=hv.lots l hm;have h0:0≤l.Units:=by omega
 have e35:f35r1 a l=some ():=rfl;have e36:f36r1=some ():=rfl;unfold f12n2;rw [hk];simp only [Option.bind_some,e35,e36];unfold awL prc
 by_cases h1:a.Rule=1
 ·rw [decide_eq_true h1,cond_true,f56_eq hv.nb hu h0 hl.2.2.1];obtain ⟨q,e⟩:=f53r6_eq (a:=a) (l:=l) (lowP l.Reserve l.Units (rkd a.Bids l)) o hv.nb hu h0 hl.2.2.1 ho;simp only [Option.bind_some,cond_true];unfold f12n3;rw [e,tkA hu h0];have e2:lowP l.Reserve l.Units (rkd a.Bids l)=lowA a.Bids l:=lowP_eq (rkd_bef a.Bids l) (rkd_uok hu) (rkd a.Bids l) [] l.Units l.Reserve rfl (by simp [sumU]; omega);rw [e2];cases q<;>rfl
 ·rw [decide_eq_false h1,cond_false]
  by_cases h2:a.Rule=2
  ·rw [decide_eq_true h2,cond_true,f57_eq hv.nb hu h0 hl.2.2.1];obtain ⟨q,e⟩:=f53r7_eq (a:=a) (l:=l) (rejP l.Reserve l.Units (rkd a.Bids l)) o hv.nb hu h0 hl.2.2.1 ho;simp only [Option.bind_some,cond_true,cond_false];unfold f12n4;rw [e,tkA hu h0];have e2:rejP l.Reserve l.Units (rkd a.Bids l)=rejA a.Bids l:=rejP_eq (rkd_bef a.Bids l) (rkd_uok hu) l.Reserve (rkd a.Bids l) [] l.Units rfl (by simp [sumU]; omega);rw [e2];cases q<;>rfl
  ·rw [decide_eq_false h2,cond_false];obtain ⟨q,e⟩:=f53r8_eq (a:=a) (l:=l) 0 o hv.nb hu h0 hl.2.2.1 ho;unfold f12n5;rw [e,tkA hu h0];cases q<;>rfl
theorem awL_len(rule:Int)(bs:List AB)(l:AL):(awL rule bs l).length≤bs.length:=by
 unfold awL won;rw [List.length_map];exact Nat.le_trans (List.length_filter_le _ _) (rkd_len bs l)
theorem f12n6_at{a:AA}(hv:Vl a):∀(r:List AL)(f k:Nat)(o:List AW),a.Lots.drop k=r→r.length<f→o.length+100*r.length≤2000→f12n6 f a (k:Int) o=some (.exit0 (o++r.flatMap (awL a.Rule a.Bids)))
 | _,0,_,_,_,h,_=>absurd h (Nat.not_lt_zero _)
 | [],f+1,k,o,hd,_,_=>by
  have:=Qan hd;rw [f12n6,decide_eq_false (by omega),cond_false,List.flatMap_nil,List.append_nil]
 | l::r,f+1,k,o,hd,hf,ho=>by
  have hk:=dropAt hd;have hnl:=hv.nl;have hnb:=hv.nb;have hw:=awL_len a.Rule a.Bids l;rw [List.length_cons] at ho hf;rw [f12n6,decide_eq_true (by have:=hk.2.1; omega),cond_true,f12n2_eq hv hk.1 (List.mem_of_mem_drop (hd ▸ List.mem_cons_self)) o (by omega)];simp only [Option.bind_some];rw [wrSucc (by have:=hk.2.1; omega),f12n6_at hv r f (k+1) _ hk.2.2 (by omega) (by rw [List.length_append]; omega),List.flatMap_cons,List.append_assoc]
def cA(x y:AW):Int:=cmpI x.Bid y.Bid
theorem cA_cmp:Cmp cA:=Cmp.int Qa.Bid
theorem f38_eq(x y:AW):f38 x y=some (cA x y):=by unfold f38 f38n0; rw [f39_eq]; rfl
def outA(a:AA):List AW:=a.Lots.flatMap (awL a.Rule a.Bids)
theorem outA_len{a:AA}(hv:Vl a):(outA a).length≤1600:=by
 have h:∀ls:List AL,(ls.flatMap (awL a.Rule a.Bids)).length≤100*ls.length:=fun ls=>by
  induction ls with
  | nil=>simp
  | cons l r ih =>
   have:=awL_len a.Rule a.Bids l;have:=hv.nb;rw [List.flatMap_cons,List.length_append,List.length_cons]; omega
 have:=h a.Lots;have:=hv.nl;unfold outA; omega
theorem f12_good{a:AA}(h:okA a=true):f12 a=some (sortL cA (outA a),0):=by
 have hv:=okA_vl h;have h1:f12n1 a=some (.norm (outA a)):=by
  unfold f12n1;have hl:=hv.nl;have:=f12n6_at hv a.Lots FUEL 0 [] rfl (Qbf (by omega)) (by simp; omega);rw [show ((0:Nat):Int)=0 from rfl,List.nil_append] at this;rw [this]; rfl
 unfold f12 f12n0;rw [f31_eq,h,cond_true];simp only [Option.bind_some,decide_true,cond_true,h1];rw [so37_38_val f38_eq cA_cmp.SWO (by have:=outA_len hv; omega)];rfl
theorem f12_none{a:AA}(h:okA a=false):f12 a=some ([],8):=by
 unfold f12 f12n0;rw [f31_eq,h]; rfl

def Z(bs:List AB):List SH:=zs bs 0
def bfr(bs:List AB)(s:SH):Int:=sumU ((Z bs).filter fun t=>seq t.bid.Lot s.bid.Lot&&bef t s)
def gets(bs:List AB)(l:AL)(s:SH):Int:=bif decide (l.Reserve≤s.bid.Price) then min (max (l.Units-bfr bs s) 0) s.bid.Units else 0
theorem rkG_eq{bs:List AB}{l:AL}{s:SH}(h:rk l s=true):rkG bs l s=gets bs l s:=by
 rw [rk_iff] at h;unfold rkG gt gets bfr;rw [decide_eq_true h.2,cond_true,sumU_perm ((rkd_perm bs l).filter _)];unfold all_ Z;rw [List.filter_filter]
 congr 4
 apply List.filter_congr
 intro t _;unfold rk;rw [h.1];cases h1:bef t s with
 | false=>simp
 | true =>
  rw [bef_iff] at h1;rw [decide_eq_true (by omega:l.Reserve≤t.bid.Price)]; simp
def aw(a:AA)(s:SH):Option AW:=match lotN s.bid.Lot a.Lots with
 | some l=>bif decide (gets a.Bids l s=0) then none else some ⟨s.index,gets a.Bids l s,prc a.Rule a.Bids l s⟩
 | none=>none
def awS(a:AA):List AW:=(Z a.Bids).filterMap (aw a)
theorem aw_bid{a:AA}{s:SH}{x:AW}(h:aw a s=some x):x.Bid=s.index:=by
 unfold aw at h
 split at h
 ·rename_i l _;cases k:decide (gets a.Bids l s=0) with
  | true=>rw [k] at h; cases h
  | false=>rw [k] at h; obtain rfl:=Option.some.inj h; rfl
 ·cases h
theorem gets_rk{bs:List AB}{l:AL}{s:SH}(hn:s.bid.Lot=l.Name)(h:gets bs l s≠0):rk l s=true:=by
 unfold gets at h;unfold rk;cases k:decide (l.Reserve≤s.bid.Price) with
 | false=>rw [k] at h; exact absurd rfl h
 | true=>rw [hn,seq_refl]; rfl
theorem outA_mem{a:AA}(hv:Vl a){x:AW} : x∈outA a↔x∈awS a:=by
 unfold outA awS;rw [List.mem_flatMap,List.mem_filterMap]
 constructor
 ·rintro ⟨l,hl,hx⟩
  unfold awL at hx;obtain ⟨s,hs,rfl⟩:=List.mem_map.1 hx;unfold won at hs;obtain ⟨h1,h2⟩:=List.mem_filter.1 hs;obtain ⟨h3,h4⟩:=Qch.1 h1;rw [rkG_eq h4] at h2 ⊢;have e:s.bid.Lot=l.Name:=by
   unfold rk at h4;rw [Bool.and_eq_true] at h4;exact seq_iff.1 h4.1
  refine ⟨s,h3,?_⟩;unfold aw;rw [e,lotN_of hv.srt l hl];have h5:decide (gets a.Bids l s=0)=false:=by simpa using h2
  simp only [h5,cond_false]
 ·rintro ⟨s,hs,hx⟩
  unfold aw at hx
  split at hx
  ·rename_i l hl;obtain ⟨k1,k2⟩:=lotN_mem hl;cases k:decide (gets a.Bids l s=0) with
   | true=>rw [k] at hx; cases hx
   | false =>
    rw [k] at hx;obtain rfl:=Option.some.inj hx;have hr:=gets_rk k2.symm (of_decide_eq_false k);refine ⟨l,k1,?_⟩;unfold awL won;refine List.mem_map.2 ⟨s,List.mem_filter.2 ⟨Qch.2 ⟨hs,hr⟩,?_⟩,?_⟩
    ·rw [rkG_eq hr,k]; rfl
    ·rw [rkG_eq hr]
  ·cases hx
theorem awS_lt(a:AA):(awS a).Pairwise fun x y=>x.Bid<y.Bid:=by
 unfold awS;rw [List.pairwise_filterMap];refine (zs_idx a.Bids 0).1.imp fun {s t} h x hx y hy=>?_;rw [aw_bid hx,aw_bid hy]; exact h
theorem nodup_bid{l:List AW}(h:l.Pairwise fun x y=>x.Bid≠y.Bid):l.Nodup:=h.imp fun {x y} h e=>h (by rw [e])
theorem mem_awL{rule:Int}{bs:List AB}{l:AL}{x:AW}(h:x∈awL rule bs l):∃s∈Z bs,s.index=x.Bid∧s.bid.Lot=l.Name:=by
 unfold awL won at h;obtain ⟨s,hs,rfl⟩:=List.mem_map.1 h;obtain ⟨h3,h4⟩:=Qch.1 (List.mem_filter.1 hs).1;unfold rk at h4;rw [Bool.and_eq_true] at h4;exact ⟨s,h3,rfl,seq_iff.1 h4.1⟩
theorem Z_inj{bs:List AB}{s t:SH}(hs:s∈Z bs)(ht:t∈Z bs)(h:s.index=t.index):s=t:=by
 obtain ⟨_,_,h3,h4⟩:=(zs_idx bs 0).2 s hs;obtain ⟨_,_,k3,k4⟩:=(zs_idx bs 0).2 t ht;rw [h] at h4;rw [h4] at k4;cases s; cases t
 simp_all
theorem outA_ne{a:AA}(hv:Vl a):(outA a).Pairwise fun x y=>x.Bid≠y.Bid:=by
 unfold outA;rw [List.pairwise_flatMap];refine ⟨fun l hl=>?_,hv.srt.imp fun {l m} hlm x hx y hy e=>?_⟩
 ·unfold awL won;rw [List.pairwise_map];refine List.Pairwise.filter _ ?_;have hb:=rkd_bef a.Bids l;refine (List.Pairwise.and_mem.1 hb).imp fun {s t} h e=>?_;have:=Z_inj (Qch.1 h.1).1 (Qch.1 h.2.1).1 e;rw [this] at h;rw [bef_irr] at h; exact absurd h.2.2 (by simp)
 ·obtain ⟨s,h1,h2,h3⟩:=mem_awL hx;obtain ⟨t,k1,k2,k3⟩:=mem_awL hy;have:=Z_inj h1 k1 (by rw [h2,k2,e]);rw [this,k3] at h3;exact sltNe hlm h3.symm
theorem out_perm{a:AA}(hv:Vl a):(outA a).Perm (awS a) :=
 (List.perm_ext_iff_of_nodup (nodup_bid (outA_ne hv)) (nodup_bid ((awS_lt a).imp fun h=>by omega))).2 fun x=>outA_mem hv
theorem sort_out{a:AA}(hv:Vl a):sortL cA (outA a)=awS a:=by
 have hp:(sortL cA (outA a)).Perm (awS a):=(sortL_perm cA_cmp.SWO _).trans (out_perm hv);have o:SWo fun x y:AW=>decide (cA x y<0):=cA_cmp.swo;have hn:(awS a).Pairwise fun x y=>eqv (fun x y:AW=>decide (cA x y<0)) x y=false:=(awS_lt a).imp fun {x y} h=>by
  rw [←Bool.not_eq_true,cA_cmp.eqv];unfold cA;rw [cmpI_zero]; omega
 have s1:Sd (fun x y:AW=>decide (cA x y<0)) (sortL cA (outA a)):=sortL_sorted cA_cmp.SWO _;have s2:Sd (fun x y:AW=>decide (cA x y<0)) (awS a):=(awS_lt a).imp fun {x y} h=>by
  rw [decide_eq_false_iff_not];unfold cA;rw [cmpI_neg]; omega
 exact (sorted_one o s2 s1 (Cl.of_perm hp hn o)).symm
theorem f12_eq(a:AA):f12 a=some (bif okA a then (awS a,0) else ([],8)):=by
 cases h:okA a with
 | true=>rw [f12_good h,sort_out (okA_vl h)]; rfl
 | false=>rw [f12_none h]; rfl
end Go.Proofs.Ythpceddjepbamaa
namespace Go.Proofs.Ythpceddjepbamaa
set_option linter.unusedVariables false
set_option linter.unusedSimpArgs false
set_option maxRecDepth 100000
open Go.RowKit
theorem at_Z{bs:List AB}{s:SH}(h:s∈Z bs):at? bs s.index=some s.bid:=by
 obtain ⟨h1,h2,_,h4⟩:=(zs_idx bs 0).2 s h;unfold at?;rw [if_pos h1];rw [show s.index-0=s.index by omega] at h4;exact h4
theorem Z_rng{bs:List AB}{s:SH}(h:s∈Z bs):0≤s.index∧s.index<bs.length:=by
 obtain ⟨h1,h2,_,_⟩:=(zs_idx bs 0).2 s h;omega
theorem Z_bid{bs:List AB}{s:SH}(h:s∈Z bs):s.bid∈bs:=zs_mem h

theorem gets_rng{bs:List AB}{l:AL}{s:SH}(h:1≤s.bid.Units):0≤gets bs l s∧gets bs l s≤s.bid.Units:=by
 unfold gets;cases decide (l.Reserve≤s.bid.Price) with
 | false=>rw [cond_false]; omega
 | true=>rw [cond_true]; omega
theorem low_mem(q:Int):∀W:List SH,low q W=q∨∃s∈W,low q W=s.bid.Price
 | []=>.inl rfl
 | x::r=>by
  have e:low q (x::r)=low x.bid.Price r:=rfl;rw [e];rcases low_mem x.bid.Price r with h | ⟨s,hs,h⟩
  ·exact .inr ⟨x,List.mem_cons_self,h⟩
  ·exact .inr ⟨s,List.mem_cons_of_mem _ hs,h⟩
theorem rej_mem(q:Int)(g:SH→Int)(T:List SH):(rej q g T=q∧∀s∈T,s.bid.Units≤g s)∨∃s∈T,g s<s.bid.Units∧rej q g T=s.bid.Price:=by
 unfold rej;cases h:T.find? (fun s=>decide (g s<s.bid.Units)) with
 | none =>
  refine .inl ⟨rfl,fun s hs=>?_⟩;have:=List.find?_eq_none.1 h s hs;simp at this; exact this
 | some s =>
  have h1:=List.mem_of_find?_eq_some h;have h2:=List.find?_some h;exact .inr ⟨s,h1,of_decide_eq_true h2,rfl⟩
structure AwOk (a:AA) (x:AW) (s:SH) (l:AL):Prop where
 z:s∈Z a.Bids
 l_:l∈a.Lots
 nm:s.bid.Lot=l.Name
 idx:x.Bid=s.index
 un:x.Units=gets a.Bids l s
 pr:x.Price=prc a.Rule a.Bids l s
 rk_:rk l s=true
 pos:1≤x.Units
 le:x.Units≤s.bid.Units
theorem awS_ok{a:AA}(hv:Vl a){x:AW}(h:x∈awS a):∃s l,AwOk a x s l:=by
 unfold awS at h;obtain ⟨s,hs,hx⟩:=List.mem_filterMap.1 h;unfold aw at hx
 split at hx
 ·rename_i l hl;obtain ⟨k1,k2⟩:=lotN_mem hl;cases k:decide (gets a.Bids l s=0) with
  | true=>rw [k] at hx; cases hx
  | false =>
   rw [k] at hx;obtain rfl:=Option.some.inj hx;have h0:=of_decide_eq_false k;have hr:=gets_rng (bs:=a.Bids) (l:=l) (s:=s) (hv.bids _ (Z_bid hs)).2.1;exact ⟨s,l,hs,k1,k2.symm,rfl,rfl,rfl,gets_rk k2.symm h0,by show 1≤gets a.Bids l s; omega,hr.2⟩
 ·cases hx
theorem prc_rng{a:AA}(hv:Vl a){l:AL}(hl:l∈a.Lots){s:SH}(hs:s∈Z a.Bids)(hr:rk l s=true):l.Reserve≤prc a.Rule a.Bids l s∧prc a.Rule a.Bids l s≤33554432:=by
 have h1:=hv.lots l hl;have h2:∀t∈rkd a.Bids l,l.Reserve≤t.bid.Price∧t.bid.Price≤33554432:=fun t ht=>by
  have:=Qch.1 ht;have h3:=hv.bids _ (Z_bid this.1);exact ⟨(rk_iff.1 this.2).2,h3.2.2.2.2⟩
 have h3:=h2 s (Qch.2 ⟨hs,hr⟩);unfold prc;cases decide (a.Rule=1) with
 | true =>
  rw [cond_true];unfold lowA;rcases low_mem l.Reserve (won a.Bids l) with e | ⟨t,ht,e⟩
  ·omega
  ·have:=h2 t (List.mem_filter.1 ht).1; omega
 | false =>
  cases decide (a.Rule=2) with
  | true =>
   rw [cond_false,cond_true];unfold rejA;rcases rej_mem l.Reserve (rkG a.Bids l) (rkd a.Bids l) with ⟨e,_⟩|⟨t,ht,_,e⟩
   ·omega
   ·have:=h2 t ht; omega
  | false=>exact h3
theorem mul_rng{u p U P:Int}(h0:0≤u)(h1:u≤U)(h2:0≤p)(h3:p≤P):0≤u*p∧u*p≤U*P :=
 ⟨Int.mul_nonneg h0 h2,Int.mul_le_mul h1 h3 h2 (by omega)⟩
theorem awS_rng{a:AA}(hv:Vl a){x:AW}(h:x∈awS a):1≤x.Units∧x.Units≤1048576∧0≤x.Price∧x.Price≤33554432∧0≤x.Units*x.Price∧x.Units*x.Price≤35184372088832:=by
 obtain ⟨s,l,k⟩:=awS_ok hv h;have h1:=hv.bids _ (Z_bid k.z);have h2:=prc_rng hv k.l_ k.z k.rk_;have h3:=hv.lots l k.l_;have:=k.pos; have:=k.le;rw [←k.pr] at h2;have:=mul_rng (u:=x.Units) (p:=x.Price) (U:=1048576) (P:=33554432) (by omega) (by omega) (by omega) (by omega);exact ⟨by omega,by omega,by omega,by omega,this.1,this.2⟩
theorem awS_len(a:AA):(awS a).length≤a.Bids.length:=by
 unfold awS;refine Nat.le_trans (List.length_filterMap_le _ _) ?_;unfold Z; rw [zs_len]; exact Nat.le_refl _

def sumW(q:AW→Bool):List AW→Int
 | []=>0
 | x::r=>(bif q x then x.Units*x.Price else 0)+sumW q r
def mbr(bs:List AB)(x:AW):ByteArray:=match at? bs x.Bid with | some b=>b.Member | none=>str_x
theorem awS_at{a:AA}(hv:Vl a){x:AW}(h:x∈awS a):∃b,at? a.Bids x.Bid=some b∧b∈a.Bids:=by
 obtain ⟨s,l,k⟩:=awS_ok hv h;exact ⟨s.bid,by rw [k.idx]; exact at_Z k.z,Z_bid k.z⟩
theorem f40m_l{a:AA}(bh:List AW×Int)(m:ByteArray):∀(l:List AW)(n v:Int),(∀x∈l,(∃b,at? a.Bids x.Bid=some b)∧0≤x.Units*x.Price∧x.Units*x.Price≤35184372088832)→0≤n→n+35184372088832*l.length≤9000000000000000000 →
  f40r1n2L bh m a l n v=some (.exit0 (n+sumW (fun x=>seq (mbr a.Bids x) m) l))
 | [],n,v,_,_,_=>by rw [f40r1n2L,sumW,Int.add_zero]
 | x::r,n,v,h,h0,hn=>by
  obtain ⟨⟨b,hb⟩,h1,h2⟩:=h x List.mem_cons_self;have h':∀y∈r,(∃b,at? a.Bids y.Bid=some b)∧0≤y.Units*y.Price∧y.Units*y.Price≤35184372088832:=fun y hy=>h y (List.mem_cons_of_mem _ hy);rw [List.length_cons] at hn;have e42:f42r1 b m=some ():=rfl;rw [f40r1n2L,hb,sumW,mbr,hb];simp only [Option.bind_some,e42];cases seq b.Member m with
  | true =>
   rw [cond_true,cond_true,show wr64 (x.Units*x.Price)=x.Units*x.Price from wrIn (by omega) (by omega),show wr64 (n+x.Units*x.Price)=n+x.Units*x.Price from wrIn (by omega) (by omega),f40m_l bh m r _ _ h' (by omega) (by omega),Int.add_assoc]
  | false=>rw [cond_false,cond_false,f40m_l bh m r _ _ h' h0 (by omega),Int.zero_add]
theorem f40p_l{a:AA}(bh:List AW×Int):∀(l:List AW)(n v:Int),(∀x∈l,(∃b,at? a.Bids x.Bid=some b)∧0≤x.Units*x.Price∧x.Units*x.Price≤35184372088832)→0≤n→n+35184372088832*l.length≤9000000000000000000 →
  Qbq bh a l n v=some (.exit0 (n+sumW (fun _=>true) l))
 | [],n,v,_,_,_=>by rw [Qbq,sumW,Int.add_zero]
 | x::r,n,v,h,h0,hn=>by
  obtain ⟨⟨b,hb⟩,h1,h2⟩:=h x List.mem_cons_self;have h':∀y∈r,(∃b,at? a.Bids y.Bid=some b)∧0≤y.Units*y.Price∧y.Units*y.Price≤35184372088832:=fun y hy=>h y (List.mem_cons_of_mem _ hy);rw [List.length_cons] at hn;have e41:f41 b=some true:=rfl;rw [Qbq,hb,sumW];simp only [Option.bind_some,e41];rw [cond_true,cond_true,show wr64 (x.Units*x.Price)=x.Units*x.Price from wrIn (by omega) (by omega),show wr64 (n+x.Units*x.Price)=n+x.Units*x.Price from wrIn (by omega) (by omega),f40p_l bh r _ _ h' (by omega) (by omega),Int.add_assoc]
theorem aw_fit{a:AA}(hv:Vl a):(0:Int)+35184372088832*((awS a).length:Int)≤9000000000000000000:=by
 have:=awS_len a;have:=hv.nb;omega
theorem aw_all{a:AA}(hv:Vl a):∀x∈awS a,(∃b,at? a.Bids x.Bid=some b)∧0≤x.Units*x.Price∧x.Units*x.Price≤35184372088832:=fun x hx=>by
 obtain ⟨b,h,_⟩:=awS_at hv hx;have:=awS_rng hv hx;exact ⟨⟨b,h⟩,this.2.2.2.2.1,this.2.2.2.2.2⟩
def paidS(a:AA)(m:ByteArray):Int:=sumW (fun x=>seq (mbr a.Bids x) m) (awS a)
def procS(a:AA):Int:=sumW (fun _=>true) (awS a)
theorem f16_eq(a:AA)(m:ByteArray):f16 a m=some (bif okA a then (paidS a m,0) else (0,8)):=by
 unfold f16 f16n0 f40r1 f40r1n0 f40r1n1;rw [f12_eq];cases h:okA a with
 | true =>
  have hv:=okA_vl h;simp only [cond_true,Option.bind_some];rw [f40r1n2_run (awS a,0) m a 0 (Qcd (by show (awS a).length≤_; have:=awS_len a; have:=hv.nb; omega))];rw [show f40r1n2L (awS a,0) m a (awS a,(0:Int)).1 0 0=_ from f40m_l (awS a,0) m (awS a) 0 0 (aw_all hv) (Int.le_refl _) (aw_fit hv),Int.zero_add]; rfl
 | false =>
  simp only [cond_false,Option.bind_some];rw [f40r1n2_run ([],8) m a 0 (Qcd (by simp))]; rfl
theorem f15_eq(a:AA):f15 a=some (bif okA a then (procS a,0) else (0,8)):=by
 unfold f15 f15n0 f40_41 f40_41n0 f40_41n1;rw [f12_eq];cases h:okA a with
 | true =>
  have hv:=okA_vl h;simp only [cond_true,Option.bind_some];rw [f40_41n2_run (awS a,0) a 0 (Qcd (by show (awS a).length≤_; have:=awS_len a; have:=hv.nb; omega))];rw [show Qbq (awS a,0) a (awS a,(0:Int)).1 0 0=_ from f40p_l (awS a,0) (awS a) 0 0 (aw_all hv) (Int.le_refl _) (aw_fit hv),Int.zero_add]; rfl
 | false =>
  simp only [cond_false,Option.bind_some];rw [f40_41n2_run ([],8) a 0 (Qcd (by simp))]; rfl

def leftL(bs:List AB)(l:AL):Int:=l.Units-sumG (rkG bs l) (rkd bs l)

theorem f34_eq(a:AA)(m:ByteArray):f34 a m=some (bif okA a then paidS a m else -1):=by
 unfold f34 f34n0;rw [f16_eq];cases okA a<;>rfl
theorem alive_t:f10=some true:=by
 unfold f10 f10n0 f10n1 f10n2 f10n3;simp only [f34_eq]
 kernel_rfl
def grt(a:AA):Bool:=!(decide (a.Lots.length≤20))||!(decide (a.Bids.length≤110))
theorem f11_eq(a:AA):f11 a=some (grt a):=by
 unfold f11 f11n0 grt;rw [show decide ((20:Int)<(a.Lots.length:Int))=_ from lenD a.Lots.length 20,show decide ((110:Int)<(a.Bids.length:Int))=_ from lenD a.Bids.length 110];cases decide (a.Lots.length≤20)<;>rfl
end Go.Proofs.Ythpceddjepbamaa
namespace Go.Proofs.Ythpceddjepbamaa
set_option linter.unusedVariables false
set_option linter.unusedSimpArgs false
open Go.RowKit
theorem won_mem{bs:List AB}{l:AL}{s:SH} : s∈won bs l↔s∈Z bs∧rk l s=true∧gets bs l s≠0:=by
 unfold won;rw [List.mem_filter,Qch]
 constructor
 ·rintro ⟨⟨h1,h2⟩,h3⟩
  rw [rkG_eq h2] at h3;exact ⟨h1,h2,by simpa using h3⟩
 ·rintro ⟨h1,h2,h3⟩
  exact ⟨⟨h1,h2⟩,by rw [rkG_eq h2]; simpa using h3⟩

theorem sumU_add{l:List SH}{p q:SH→Bool}{r:SH}(hu:uOk l)(hr:r∈l)(hp:p r=false)(hq:q r=true)(h:∀s∈l,p s=true→q s=true):sumU (l.filter p)+r.bid.Units≤sumU (l.filter q):=by
 obtain ⟨a,b,rfl⟩:=List.append_of_mem hr;rw [List.filter_append,List.filter_append,List.filter_cons,List.filter_cons,hp,hq,sumU_app,sumU_app];have h1:=sumU_le (l:=a) (p:=p) (q:=q) (fun s hs=>hu s (by simp [hs])) fun s hs=>h s (by simp [hs]);have h2:=sumU_le (l:=b) (p:=p) (q:=q) (fun s hs=>hu s (by simp [hs])) fun s hs=>h s (by simp [hs]);simp only [if_true,sumU];simp only [Bool.false_eq_true,if_false];omega
theorem Z_uok{bs:List AB}(hu:∀b∈bs,1≤b.Units∧b.Units≤1048576):uOk (Z bs):=fun s hs=>hu _ (Z_bid hs)
theorem bfr_add{bs:List AB}(hu:∀b∈bs,1≤b.Units∧b.Units≤1048576){r t:SH}(hr:r∈Z bs)(hl:r.bid.Lot=t.bid.Lot)(h:bef r t=true):bfr bs r+r.bid.Units≤bfr bs t:=by
 unfold bfr;refine sumU_add (Z_uok hu) hr (by rw [bef_irr]; simp) (by rw [hl,seq_refl,h]; rfl) fun s _ k=>?_;rw [Bool.and_eq_true] at k ⊢;rw [←hl];exact ⟨k.1,bef_tr k.2 h⟩
theorem gets_eq{bs:List AB}{l:AL}{s:SH}(h:rk l s=true):gets bs l s=min (max (l.Units-bfr bs s) 0) s.bid.Units:=by
 unfold gets; rw [decide_eq_true (rk_iff.1 h).2,cond_true]
theorem gets_after{bs:List AB}(hu:∀b∈bs,1≤b.Units∧b.Units≤1048576){l:AL}{r t:SH}(hr:r∈Z bs)(ht:t∈Z bs)(h1:rk l r=true)(h2:t.bid.Lot=l.Name)(hb:bef r t=true)(hg:gets bs l r<r.bid.Units):gets bs l t=0:=by
 have hlot:r.bid.Lot=t.bid.Lot:=by rw [(rk_iff.1 h1).1,h2]
 have:=bfr_add hu hr hlot hb;rw [gets_eq h1] at hg;have:=hu _ (Z_bid ht);have:=hu _ (Z_bid hr);unfold gets;cases decide (l.Reserve≤t.bid.Price) with
 | false=>rfl
 | true=>rw [cond_true]; omega
theorem rej_le{bs:List AB}(hu:∀b∈bs,1≤b.Units∧b.Units≤1048576){l:AL}{t:SH}(ht:t∈won bs l):rejA bs l≤t.bid.Price:=by
 obtain ⟨h1,h2,h3⟩:=won_mem.1 ht;unfold rejA;rcases rej_mem l.Reserve (rkG bs l) (rkd bs l) with ⟨e,_⟩|⟨r,hr,hg,e⟩
 ·rw [e]; exact (rk_iff.1 h2).2
 ·rw [e];obtain ⟨k1,k2⟩:=Qch.1 hr;rw [rkG_eq k2] at hg
  by_cases hlt:t.bid.Price<r.bid.Price
  ·exact absurd (gets_after hu k1 h1 k2 (rk_iff.1 h2).1 (bef_iff.2 (.inl hlt)) hg) h3
  ·omega
theorem low_le:∀{W:List SH} {q:Int} {s:SH},Bef W→s∈W→low q W≤s.bid.Price
 | x::r,q,s,h,hs=>by
  have e:low q (x::r)=low x.bid.Price r:=rfl;have h':=List.pairwise_cons.1 h;rw [e];rcases List.mem_cons.1 hs with rfl | hs
  ·rcases low_mem s.bid.Price r with k | ⟨t,ht,k⟩
   ·omega
   ·have:=bef_iff.1 (h'.1 t ht); omega
  ·exact low_le h'.2 hs
theorem won_bef(bs:List AB)(l:AL):Bef (won bs l):=List.Pairwise.filter _ (rkd_bef bs l)
theorem lowA_le{bs:List AB}{l:AL}{t:SH}(ht:t∈won bs l):lowA bs l≤t.bid.Price:=low_le (won_bef bs l) ht
theorem lowA_mem{bs:List AB}{l:AL}{t:SH}(ht:t∈won bs l):∃s∈won bs l,lowA bs l=s.bid.Price:=by
 unfold lowA;cases h:won bs l with
 | nil=>rw [h] at ht; cases ht
 | cons x r =>
  have e:low l.Reserve (x::r)=low x.bid.Price r:=rfl;rw [e];rcases low_mem x.bid.Price r with k | ⟨s,hs,k⟩
  ·exact ⟨x,List.mem_cons_self,k⟩
  ·exact ⟨s,List.mem_cons_of_mem _ hs,k⟩
theorem rej_low{bs:List AB}(hu:∀b∈bs,1≤b.Units∧b.Units≤1048576){l:AL}{t:SH}(ht:t∈won bs l):rejA bs l≤lowA bs l:=by
 obtain ⟨s,hs,e⟩:=lowA_mem ht;rw [e]; exact rej_le hu hs

theorem sumG_eq{U:Int}{T:List SH}(hT:Bef T)(hu:uOk T):∀(r P:List SH)(n:Int),T=P++r→n=max (U-sumU P) 0→sumG (gt U T) r=n-max (U-sumU T) 0
 | [],P,n,h,hn=>by rw [sumG,h,List.append_nil,hn]; omega
 | s::r,P,n,h,hn=>by
  have hs:=hu s (by rw [h]; simp);have hg:=gt_at (U:=U) h hT;rw [←hn] at hg;rw [sumG,sumG_eq hT hu r (P++[s]) (n-min n s.bid.Units) (by rw [h]; simp) (step_n hn hs.1),hg]; omega
theorem leftL_eq{bs:List AB}{l:AL}(hu:∀b∈bs,1≤b.Units∧b.Units≤1048576)(h0:0≤l.Units):leftL bs l=max (l.Units-sumU (rkd bs l)) 0:=by
 unfold leftL;have e:sumG (rkG bs l) (rkd bs l)=_:=sumG_eq (U:=l.Units) (rkd_bef bs l) (rkd_uok hu) (rkd bs l) [] l.Units rfl (by simp [sumU]; omega);rw [e]; omega
theorem sumW_le{p q:AW→Bool} : ∀{l:List AW},(∀x∈l,0≤x.Units*x.Price)→(∀x∈l,p x=true→q x=true)→sumW p l≤sumW q l
 | [],_,_=>by simp [sumW]
 | x::r,h,k=>by
  have ih:=sumW_le (l:=r) (fun y hy=>h y (List.mem_cons_of_mem _ hy)) fun y hy=>k y (List.mem_cons_of_mem _ hy);have h1:=h x List.mem_cons_self;have k1:=k x List.mem_cons_self;rw [sumW,sumW];cases hp:p x with
  | true=>rw [k1 hp]; simp only [cond_true]; omega
  | false=>cases q x<;>simp only [cond_true,cond_false]<;>omega

end Go.Proofs.Ythpceddjepbamaa
namespace Go.Proofs.Ythpceddjepbamaa
set_option linter.unusedVariables false
set_option linter.unusedSimpArgs false
open Go.RowKit

end Go.Proofs.Ythpceddjepbamaa
namespace Go.Proofs.Ythpceddjepbamaa
set_option linter.unusedVariables false
set_option linter.unusedSimpArgs false
open Go.RowKit
theorem sumW_app(p:AW→Bool):∀a b:List AW,sumW p (a++b)=sumW p a+sumW p b
 | [],b=>by simp [sumW]
 | x::a,b=>by rw [List.cons_append,sumW,sumW,sumW_app p a b,Int.add_assoc]
theorem sumW_perm{p:AW→Bool}{a b:List AW}(h:a.Perm b):sumW p a=sumW p b:=by
 induction h with
 | nil=>rfl
 | cons x _ ih=>simp only [sumW,ih]
 | swap x y l=>simp only [sumW]; omega
 | trans _ _ h1 h2=>exact h1.trans h2
theorem sumW_map{f:SH→AW}{g:SH→Int} : ∀{l:List SH},(∀s∈l,(f s).Units*(f s).Price≤g s*33554432)→sumW (fun _=>true) (l.map f)≤sumG g l*33554432
 | [],_=>by simp [sumW,sumG]
 | s::r,h=>by
  have h1:=h s List.mem_cons_self;have h2:=sumW_map (f:=f) (g:=g) (l:=r) fun t ht=>h t (List.mem_cons_of_mem _ ht);rw [List.map_cons,sumW,sumG,cond_true,Int.add_mul]; omega
theorem sumG_filter{g:SH→Int} : ∀l:List SH,sumG g (l.filter fun s=>!(decide (g s=0)))=sumG g l
 | []=>rfl
 | s::r=>by
  rw [List.filter_cons]
  by_cases h:g s=0
  ·rw [decide_eq_true h,sumG,h,Int.zero_add]; exact sumG_filter r
  ·rw [decide_eq_false h];simp only [Bool.not_false,if_true,sumG,sumG_filter r]
theorem awL_sum{a:AA}(hv:Vl a){l:AL}(hl:l∈a.Lots):sumW (fun _=>true) (awL a.Rule a.Bids l)≤35184372088832:=by
 have hu:∀b∈a.Bids,1≤b.Units∧b.Units≤1048576:=fun b hb=>⟨(hv.bids b hb).2.1,(hv.bids b hb).2.2.1⟩;have hll:=hv.lots l hl;have h1:sumW (fun _=>true) (awL a.Rule a.Bids l)≤sumG (rkG a.Bids l) (won a.Bids l)*33554432:=by
  unfold awL;refine sumW_map fun s hs=>?_;obtain ⟨k1,k2,k3⟩:=won_mem.1 hs;have h2:=prc_rng hv hl k1 k2;have h3:=(gets_rng (bs:=a.Bids) (l:=l) (s:=s) (hu _ (Z_bid k1)).1).1;rw [←rkG_eq k2] at h3;exact Int.mul_le_mul_of_nonneg_left h2.2 h3
 have h2:sumG (rkG a.Bids l) (won a.Bids l)=sumG (rkG a.Bids l) (rkd a.Bids l):=sumG_filter _;have h3:=leftL_eq (l:=l) hu (by omega);unfold leftL at h3;rw [h2] at h1;omega
theorem proc_le{a:AA}(hv:Vl a):procS a≤562949953421312:=by
 have h:∀ls:List AL,(∀l∈ls,l∈a.Lots)→sumW (fun _=>true) (ls.flatMap (awL a.Rule a.Bids))≤35184372088832*ls.length:=fun ls hls=>by
  induction ls with
  | nil=>simp [sumW]
  | cons l r ih =>
   have h1:=awL_sum hv (hls l List.mem_cons_self);have h2:=ih fun m hm=>hls m (List.mem_cons_of_mem _ hm);rw [List.flatMap_cons,sumW_app,List.length_cons];omega
 have h1:=h a.Lots fun _ h=>h;have h2:=hv.nl;unfold procS;rw [←sumW_perm (out_perm hv)];unfold outA;omega

def hasM(cs:List AB)(m:ByteArray):Bool:=cs.any fun c=>seq c.Member m
def sumM(a:AA)(cs:List AB):Int:=sumW (fun x=>hasM cs (mbr a.Bids x)) (awS a)
theorem hasM_app(cs:List AB)(b:AB)(m:ByteArray):hasM (cs++[b]) m=(hasM cs m||seq b.Member m):=by
 unfold hasM; rw [List.any_append]; simp
theorem seqC(a b:ByteArray):seq a b=seq b a:=by
 cases h:seq a b with
 | true=>rw [seq_iff.1 h,seq_refl]
 | false =>
  symm
  refine seqF fun e=>?_;rw [e,seq_refl] at h; cases h
theorem sumW_split{p q r:AW→Bool} : ∀{l:List AW},(∀x∈l,r x=(p x||q x)∧(p x&&q x)=false)→sumW r l=sumW p l+sumW q l
 | [],_=>rfl
 | x::l,h=>by
  obtain ⟨h1,h2⟩:=h x List.mem_cons_self;rw [sumW,sumW,sumW,sumW_split (l:=l) fun y hy=>h y (List.mem_cons_of_mem _ hy),h1];cases hp:p x with
  | true =>
   rw [hp] at h2;have:q x=false:=h2;rw [this]; simp; omega
  | false=>cases q x<;>simp<;>omega
theorem sumW_congr{p q:AW→Bool} : ∀{l:List AW},(∀x∈l,p x=q x)→sumW p l=sumW q l
 | [],_=>rfl
 | x::l,h=>by rw [sumW,sumW,h x List.mem_cons_self,sumW_congr (l:=l) fun y hy=>h y (List.mem_cons_of_mem _ hy)]
theorem sumM_step(a:AA)(cs:List AB)(b:AB):sumM a (cs++[b])=bif hasM cs b.Member then sumM a cs else sumM a cs+paidS a b.Member:=by
 unfold sumM paidS;cases h:hasM cs b.Member with
 | true =>
  refine sumW_congr fun x _=>?_;rw [hasM_app];cases k:seq b.Member (mbr a.Bids x) with
  | false=>rw [Bool.or_false]
  | true=>rw [←seq_iff.1 k,h]; rfl
 | false =>
  refine sumW_split fun x _=>?_;rw [hasM_app,seqC (mbr a.Bids x)];refine ⟨rfl,?_⟩;cases k:seq b.Member (mbr a.Bids x) with
  | false=>rw [Bool.and_false]
  | true=>rw [←seq_iff.1 k,h]; rfl
theorem sumM_all{a:AA}(hv:Vl a):sumM a a.Bids=procS a:=by
 unfold sumM procS;refine sumW_congr fun x hx=>?_;obtain ⟨b,h1,h2⟩:=awS_at hv hx;unfold hasM mbr;rw [h1];exact List.any_eq_true.2 ⟨b,h2,seq_refl _⟩
theorem aw_nn{a:AA}(hv:Vl a):∀x∈awS a,0≤x.Units*x.Price:=fun x hx=>(awS_rng hv hx).2.2.2.2.1
theorem sumM_rng{a:AA}(hv:Vl a)(cs:List AB):0≤sumM a cs∧sumM a cs≤562949953421312:=by
 have h1:sumW (fun _=>false) (awS a)≤sumM a cs:=sumW_le (aw_nn hv) fun _ _ h=>by cases h
 have h2:sumM a cs≤procS a:=sumW_le (aw_nn hv) fun _ _ _=>rfl;have h3:∀l:List AW,sumW (fun _=>false) l=0:=fun l=>by
  induction l with
  | nil=>rfl
  | cons x r ih=>rw [sumW,ih]; rfl
 have:=proc_le hv;rw [h3] at h1;omega
theorem paid_rng{a:AA}(hv:Vl a)(m:ByteArray):0≤paidS a m∧paidS a m≤562949953421312:=by
 have h1:sumW (fun _=>false) (awS a)≤paidS a m:=sumW_le (aw_nn hv) fun _ _ h=>by cases h
 have h2:paidS a m≤procS a:=sumW_le (aw_nn hv) fun _ _ _=>rfl;have h3:∀l:List AW,sumW (fun _=>false) l=0:=fun l=>by
  induction l with
  | nil=>rfl
  | cons x r ih=>rw [sumW,ih]; rfl
 have:=proc_le hv;rw [h3] at h1;omega
theorem take_at{α:Type}{l:List α}{i k:Nat}{x:α}(h:at? (l.take i) (k:Int)=some x):at? l (k:Int)=some x:=by
 rw [Qci] at *;rw [List.getElem?_take] at h
 split at h
 ·exact h
 ·cases h
theorem f5n4_at{a:AA}(h100:a.Bids.length≤100){i:Nat}{b:AB}(hi:at? a.Bids (i:Int)=some b)(h2:List AW×Int)(m3:Int×Int)(d4:Int):∀(r:List AB)(f k:Nat)(v:Bool),(a.Bids.take i).drop k=r→r.length<f→k≤i →
  f5n4 f true h2 m3 d4 (i:Int) a v (k:Int)=some (.exit2 (v&&!(hasM r b.Member)))
 | _,0,_,_,_,h,_=>absurd h (Nat.not_lt_zero _)
 | [],f+1,k,v,hd,_,hk=>by
  have:=Qan hd;have hl:i<a.Bids.length:=by rw [Qci] at hi; exact lt_of_at hi
  rw [List.length_take] at this;rw [f5n4,decide_eq_false (by omega),cond_false];unfold hasM
  simp
 | c::r,f+1,k,v,hd,hf,hk=>by
  have hk':=dropAt hd;have hl:i<a.Bids.length:=by rw [Qci] at hi; exact lt_of_at hi
  have hlt:k<i:=by have:=hk'.2.1; rw [List.length_take] at this; omega
  have ih:=fun v=>f5n4_at h100 hi h2 m3 d4 r f (k+1) v hk'.2.2 (by simpa using hf) hlt;have hh:hasM (c::r) b.Member=(seq c.Member b.Member||hasM r b.Member):=by unfold hasM; rw [List.any_cons]
  rw [f5n4,decide_eq_true (by omega),cond_true,wrSucc (by omega),take_at hk'.1,hi,hh];cases v with
  | false=>rw [cond_false,ih]; rfl
  | true =>
   simp only [cond_true,Option.bind_some];rw [ih];cases seq c.Member b.Member<;>rfl
theorem f5n5_at{a:AA}(ho:okA a=true)(h2:List AW×Int)(m3:Int×Int):∀(r:List AB)(f i:Nat),a.Bids.drop i=r→r.length<f→i≤a.Bids.length →
  f5n5 f true h2 m3 a (sumM a (a.Bids.take i)) (i:Int)=some (.exit0 (procS a))
 | _,0,_,_,h,_=>absurd h (Nat.not_lt_zero _)
 | [],f+1,i,hd,_,hi=>by
  have:=Qan hd;rw [f5n5,decide_eq_false (by omega),cond_false,List.take_of_length_le this,sumM_all (okA_vl ho)]
 | b::r,f+1,i,hd,hf,hi=>by
  have hv:=okA_vl ho;have hk:=dropAt hd;have hnb:=hv.nb;have ht:a.Bids.take (i+1)=a.Bids.take i++[b]:=by
   have:=hk.1;rw [Qci] at this;rw [List.take_add_one,this]; rfl
  have ih:=f5n5_at ho h2 m3 r f (i+1) hk.2.2 (by simpa using hf) hk.2.1;have h3:∀d4:Int,f5n3 true h2 m3 d4 (i:Int) a=some (.norm (!(hasM (a.Bids.take i) b.Member))):=fun d4=>by
   unfold f5n3;have:=f5n4_at hnb hk.1 h2 m3 d4 (a.Bids.take i) FUEL 0 true rfl (Qbf (by rw [List.length_take]; omega)) (Nat.zero_le _);rw [show ((0:Nat):Int)=0 from rfl] at this;rw [this]; rfl
  have hs:=sumM_step a (a.Bids.take i) b;have hr:=sumM_rng hv (a.Bids.take i);have hp:=paid_rng hv b.Member;rw [←ht] at hs;rw [f5n5,decide_eq_true (by have:=hk.2.1; omega),cond_true];have hn:f5n2 true h2 m3 (sumM a (a.Bids.take i)) (i:Int) a=some (.norm (sumM a (a.Bids.take (i+1)))):=by
   unfold f5n2;rw [h3,hk.1];simp only [Option.bind_some];rw [f16_eq,ho];simp only [cond_true,Option.bind_some,decide_true];rw [hs];cases hasM (a.Bids.take i) b.Member with
   | true=>rfl
   | false =>
    simp only [Bool.not_false,cond_true,cond_false];rw [wrIn (by omega) (by omega)]
  rw [hn];simp only [Option.bind_some];rw [wrSucc (by omega)];exact ih

theorem f17L_eq(bn:List AL)(n:ByteArray):∀(r:List AL)(v:Int),(∃(j:Nat) (x:AL),f17n2L bn n r v=some (.ret (v+j))∧r[j]?=some x∧lotN n r=some x)∨(f17n2L bn n r v=some .exit0∧lotN n r=none)
 | [],v=>.inr ⟨rfl,rfl⟩
 | x::r,v=>by
  rw [f17n2L,lotN];cases h:seq x.Name n with
  | true=>exact .inl ⟨0,x,by simp,rfl,rfl⟩
  | false =>
   rcases f17L_eq bn n r (v+1) with ⟨j,y,h1,h2,h3⟩|⟨h1,h2⟩
   ·exact .inl ⟨j+1,y,by rw [cond_false,h1,show v+1+(j:Int)=v+((j+1:Nat):Int) by omega],by rw [List.getElem?_cons_succ]; exact h2,h3⟩
   ·exact .inr ⟨h1,h2⟩
theorem f17_eq{ls:List AL}(hl:ls.length≤1000)(n:ByteArray):(∃(j:Nat) (x:AL),f17 ls n=some (j:Int)∧at? ls (j:Int)=some x∧lotN n ls=some x)∨(f17 ls n=some (-1)∧lotN n ls=none):=by
 unfold f17 f17n0 f17n1;rw [f17n2_run ls n (Qcd (by omega))];rcases f17L_eq ls n ls 0 with ⟨j,x,h1,h2,h3⟩|⟨h1,h2⟩
 ·rw [h1];exact .inl ⟨j,x,by rw [Int.zero_add]; rfl,by rw [Qci]; exact h2,h3⟩
 ·rw [h1];exact .inr ⟨rfl,h2⟩
theorem aw_won{a:AA}{x:AW}{s:SH}{l:AL}(k:AwOk a x s l):s∈won a.Bids l:=won_mem.2 ⟨k.z,k.rk_,by have:=k.pos; rw [k.un] at this; omega⟩
theorem f5n8_eq{a:AA}(hv:Vl a)(hrule:0≤a.Rule){i j:Nat}{x:AW}{s:SH}{l:AL}(k:AwOk a x s l)(hi:at? (awS a) (i:Int)=some x)(hj:at? a.Lots (j:Int)=some l):f5n8 true (awS a,0) (i:Int) (j:Int) a s.bid=some .norm:=by
 have hu:∀b∈a.Bids,1≤b.Units∧b.Units≤1048576:=fun b hb=>⟨(hv.bids b hb).2.1,(hv.bids b hb).2.2.1⟩;have hw:=aw_won k;have h1:=prc_rng hv k.l_ k.z k.rk_;have hle:prc a.Rule a.Bids l s≤s.bid.Price:=by
  unfold prc;have h3:=lowA_le hw;have h4:=rej_low hu hw;cases decide (a.Rule=1) with
  | true=>exact h3
  | false =>
   cases decide (a.Rule=2) with
   | true=>show rejA a.Bids l≤_; omega
   | false=>exact Int.le_refl _
 have h9:f5n9 true (awS a,0) (i:Int) (j:Int) a s.bid=some (.norm false):=by
  unfold f5n9;rw [show at? (awS a,(0:Int)).1 (i:Int)=some x from hi,hj];simp only [Option.bind_some];rw [decide_eq_false (by omega),cond_false,k.pr,decide_eq_false (by omega),cond_false,decide_eq_false (by omega),cond_false]
  by_cases h0:a.Rule=0
  ·rw [decide_eq_true h0,cond_true];have:prc a.Rule a.Bids l s=s.bid.Price:=by unfold prc; rw [h0]; rfl
   rw [this,decide_eq_true rfl]; rfl
  ·rw [decide_eq_false h0]; rfl
 unfold f5n8;rw [h9]; rfl
theorem same_price{a:AA}(hr:a.Rule=1∨a.Rule=2){x y:AW}{s t:SH}{l:AL}(k:AwOk a x s l)(q:AwOk a y t l):x.Price=y.Price:=by
 rw [k.pr,q.pr];unfold prc;rcases hr with h | h<;>rw [h]<;>rfl
theorem f5n10_at{a:AA}(hv:Vl a)(hrule:0≤a.Rule){i:Nat}{x:AW}{s:SH}{l:AL}(k:AwOk a x s l)(hi:at? (awS a) (i:Int)=some x):∀(r:List AW)(f m:Nat),((awS a).take i).drop m=r→r.length<f→m≤i→f5n10 f true (awS a,0) (i:Int) a s.bid (m:Int)=some .exit6
 | _,0,_,_,h,_=>absurd h (Nat.not_lt_zero _)
 | [],f+1,m,hd,_,hm=>by
  have:=Qan hd;have hl:i<(awS a).length:=by rw [Qci] at hi; exact lt_of_at hi
  rw [List.length_take] at this;rw [f5n10,decide_eq_false (by omega),cond_false]
 | y::r,f+1,m,hd,hf,hm=>by
  have hk:=dropAt hd;have hl:i<(awS a).length:=by rw [Qci] at hi; exact lt_of_at hi
  have hlt:m<i:=by have:=hk.2.1; rw [List.length_take] at this; omega
  have hlen:=awS_len a;have hnb:=hv.nb;have ih:=f5n10_at hv hrule k hi r f (m+1) hk.2.2 (by simpa using hf) hlt;rw [f5n10,decide_eq_true (by omega),cond_true]
  by_cases h0:a.Rule=0
  ·rw [decide_eq_true h0,cond_true]
  ·rw [decide_eq_false h0,cond_false];have hy:=take_at hk.1;have hym:y∈awS a:=by rw [Qci] at hy; exact List.mem_of_getElem? hy
   obtain ⟨t,l2,q⟩:=awS_ok hv hym;rw [show at? (awS a,(0:Int)).1 (m:Int)=some y from hy];simp only [Option.bind_some];rw [q.idx,at_Z q.z];simp only [Option.bind_some];rw [wrSucc (by omega)];cases hs:seq t.bid.Lot s.bid.Lot with
   | false=>exact ih
   | true =>
    have e:l2=l:=by
     have h1:=lotN_of hv.srt l2 q.l_;have h2:=lotN_of hv.srt l k.l_;rw [←q.nm,seq_iff.1 hs,k.nm,h2] at h1;exact (Option.some.inj h1).symm
    subst e;rw [show at? (awS a,(0:Int)).1 (i:Int)=some x from hi];simp only [cond_true,Option.bind_some];rw [decide_eq_true (same_price (by have:=hv.rule; omega) q k),cond_true];exact ih
theorem f5n11_at{a:AA}(hv:Vl a)(hrule:0≤a.Rule):∀(r:List AW)(f i:Nat),(awS a).drop i=r→r.length<f→f5n11 f true (awS a,0) a (i:Int)=some .exit4
 | _,0,_,_,h=>absurd h (Nat.not_lt_zero _)
 | [],f+1,i,hd,_=>by
  have:=Qan hd;rw [f5n11,decide_eq_false (by show ¬(i:Int)<((awS a).length:Int); omega),cond_false]
 | x::r,f+1,i,hd,hf=>by
  have hk:=dropAt hd;have hlen:=awS_len a;have hnb:=hv.nb;have hnl:=hv.nl;have hx:x∈awS a:=List.mem_of_mem_drop (hd ▸ List.mem_cons_self);obtain ⟨s,l,k⟩:=awS_ok hv hx;have hz:=Z_rng k.z;have h7:f5n7 true (awS a,0) (i:Int) a=some .norm:=by
   unfold f5n7;rw [show at? (awS a,(0:Int)).1 (i:Int)=some x from hk.1];simp only [Option.bind_some];rw [k.idx,decide_eq_false (by omega),cond_false,decide_eq_false (by omega),cond_false,at_Z k.z];simp only [Option.bind_some];rcases f17_eq (ls:=a.Lots) (by omega) s.bid.Lot with ⟨j,y,h1,h2,h3⟩|⟨_,h2⟩
   ·rw [k.nm,lotN_of hv.srt l k.l_] at h3;obtain rfl:=Option.some.inj h3;rw [h1];simp only [Option.bind_some];rw [f5n8_eq hv hrule k hk.1 h2];simp only [Option.bind_some];have:=f5n10_at hv hrule k hk.1 ((awS a).take i) FUEL 0 rfl (Qbf (by rw [List.length_take]; omega)) (Nat.zero_le _);rw [show ((0:Nat):Int)=0 from rfl] at this;rw [this]; rfl
   ·rw [k.nm,lotN_of hv.srt l k.l_] at h2; cases h2
  rw [f5n11,decide_eq_true (by have:=hk.2.1; show (i:Int)<((awS a).length:Int); omega),cond_true,h7];simp only [Option.bind_some];rw [wrSucc (by have:=hk.2.1; omega)];exact f5n11_at hv hrule r f (i+1) hk.2.2 (by simpa using hf)
theorem lawMoney(a:AA)(h:Qe.ok a):f5 a=some true:=by
 have hrule:=h.1.u8.1;unfold f5 f5n0;rw [alive_t,f11_eq];cases hg:grt a with
 | true=>rfl
 | false =>
  rw [f12_eq,f15_eq];cases ho:okA a with
  | false=>rfl
  | true =>
   have hv:=okA_vl ho;have hnb:=hv.nb;have hlen:=awS_len a;have hpr:=proc_le hv;simp only [Option.bind_some,cond_true,cond_false,decide_true];have h1:∀m3:Int×Int,f5n1 true (awS a,0) m3 a=some (.norm (procS a)):=fun m3=>by
    unfold f5n1;have:=f5n5_at ho (awS a,0) m3 a.Bids FUEL 0 rfl (Qbf (by omega)) (Nat.zero_le _);have e:sumM a (a.Bids.take 0)=0:=by
     unfold sumM;have:∀l:List AW,sumW (fun x=>hasM (a.Bids.take 0) (mbr a.Bids x)) l=0:=fun l=>by
      induction l with
      | nil=>rfl
      | cons x r ih=>rw [sumW,ih]; rfl
     exact this _
    rw [e,show ((0:Nat):Int)=0 from rfl] at this;rw [this]; rfl
   have h6:f5n6 true (awS a,0) a=some .norm:=by
    unfold f5n6;have:=f5n11_at hv hrule (awS a) FUEL 0 rfl (Qbf (by omega));rw [show ((0:Nat):Int)=0 from rfl] at this;rw [this]; rfl
   rw [h1];simp only [Option.bind_some,decide_true,cond_true];rw [decide_eq_false (by omega),cond_false,h6]; rfl
end Go.Proofs.Ythpceddjepbamaa
