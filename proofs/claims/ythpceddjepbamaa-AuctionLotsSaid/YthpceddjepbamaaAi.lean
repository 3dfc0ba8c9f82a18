/- Several texts in one. No condition. -/
import Derived.Test.YthpceddjepbamaaAa
namespace Go.Proofs.Ythpceddjepbamaa
set_option linter.unusedVariables false
set_option linter.unusedSimpArgs false
open Go.RowKit
def sc(x y:SH):Int:=cmpI y.bid.Price x.bid.Price
theorem f55_eq(x y:SH):f55 x y=some (sc x y):=by unfold f55 f55n0; rw [f39_eq]; rfl
abbrev ltS:SH→SH→Bool:=fun x y=>decide (sc x y<0)
theorem ltS_iff{x y:SH} : ltS x y=true↔y.bid.Price<x.bid.Price:=by
 unfold ltS sc;rw [decide_eq_true_eq,cmpI_neg]
theorem ltS_not{x y:SH} : ltS x y=false↔x.bid.Price≤y.bid.Price:=by
 rw [←Bool.not_eq_true,ltS_iff]; omega
theorem swoS:SWo ltS where
 irr x:=ltS_not.2 (Int.le_refl _)
 tr h k:=by rw [ltS_iff] at *; omega
 nt h k:=by rw [ltS_not] at *; omega
def bef(x y:SH):Bool:=decide (y.bid.Price<x.bid.Price)||(decide (x.bid.Price=y.bid.Price)&&decide (x.index<y.index))
theorem bef_iff{x y:SH} : bef x y=true↔y.bid.Price<x.bid.Price∨x.bid.Price=y.bid.Price∧x.index<y.index:=by
 unfold bef;simp only [Bool.or_eq_true,Bool.and_eq_true,decide_eq_true_eq]
theorem bef_irr(x:SH):bef x x=false:=by
 rw [←Bool.not_eq_true,bef_iff]; omega
theorem bef_asym{x y:SH}(h:bef x y=true):bef y x=false:=by
 rw [←Bool.not_eq_true]; rw [bef_iff] at *; omega
theorem bef_tr{x y z:SH}(h:bef x y=true)(k:bef y z=true):bef x z=true:=by
 rw [bef_iff] at *; omega
abbrev Idx(l:List SH):Prop:=l.Pairwise fun x y=>x.index<y.index
abbrev Bef(l:List SH):Prop:=l.Pairwise fun x y=>bef x y=true
theorem ins_mem{x z:SH} : ∀{l:List SH},z∈insS ltS x l↔z=x∨z∈l:=fun {l}=>by
 rw [(insS_perm x l).mem_iff,List.mem_cons]
theorem ins_bef{x:SH} : ∀{l:List SH},(∀y∈l,x.index<y.index)→Bef l→Bef (insS ltS x l)
 | [],_,_=>by simp [insS]
 | y::r,hi,h=>by
  have h':=List.pairwise_cons.1 h;rw [insS];cases hl:ltS y x with
  | true =>
   rw [cond_true];refine List.pairwise_cons.2 ⟨fun z hz=>?_,ins_bef (fun z hz=>hi z (List.mem_cons_of_mem _ hz)) h'.2⟩;rcases ins_mem.1 hz with rfl | hz
   ·rw [bef_iff]; rw [ltS_iff] at hl; exact .inl hl
   ·exact h'.1 z hz
  | false =>
   rw [cond_false];have hx:bef x y=true:=by
    have:=hi y List.mem_cons_self;rw [ltS_not] at hl;rw [bef_iff]; omega
   refine List.pairwise_cons.2 ⟨fun z hz=>?_,h⟩;rcases List.mem_cons.1 hz with rfl | hz
   ·exact hx
   ·exact bef_tr hx (h'.1 z hz)
theorem sort_bef:∀{l:List SH},Idx l→Bef (Qax ltS l)
 | [],_=>by simp [Qax]
 | x::r,h=>by
  have h':=List.pairwise_cons.1 h;rw [Qax];exact ins_bef (fun y hy=>h'.1 y ((Qbl swoS r).mem.1 hy)) (sort_bef h'.2)
theorem f54_eq{l:List SH}(h:l.length≤500000):f54r1 l=some (Qax ltS l):=st_sorted f55_eq swoS l h

def zs:List AB→Int→List SH
 | [],_=>[]
 | b::r,i=>⟨i,0,b⟩::zs r (i+1)
def rk(l:AL)(s:SH):Bool:=seq s.bid.Lot l.Name&&decide (l.Reserve≤s.bid.Price)
theorem zs_len:∀(l:List AB)(i:Int),(zs l i).length=l.length
 | [],_=>rfl
 | b::r,i=>by rw [zs,List.length_cons,List.length_cons,zs_len r]
theorem zs_idx:∀(l:List AB)(i:Int),Idx (zs l i)∧∀s∈zs l i,i≤s.index∧s.index<i+l.length∧s.units=0∧l[(s.index-i).toNat]?=some s.bid
 | [],_=>by simp [zs]
 | b::r,i=>by
  obtain ⟨h1,h2⟩:=zs_idx r (i+1);rw [zs];refine ⟨List.pairwise_cons.2 ⟨fun s hs=>?_,h1⟩,fun s hs=>?_⟩
  ·have:=h2 s hs; show i<s.index; omega
  ·rcases List.mem_cons.1 hs with rfl | hs
   ·simp; omega
   ·obtain ⟨k1,k2,k3,k4⟩:=h2 s hs;refine ⟨by omega,by rw [List.length_cons]; omega,k3,?_⟩;rw [show (s.index-i).toNat=(s.index-(i+1)).toNat+1 by omega,List.getElem?_cons_succ];exact k4
theorem zs_mem{l:List AB}{i:Int}{s:SH}(h:s∈zs l i):s.bid∈l:=List.mem_of_getElem? ((zs_idx l i).2 s h).2.2.2
def all_(bs:List AB)(l:AL):List SH:=(zs bs 0).filter (rk l)
def rkd(bs:List AB)(l:AL):List SH:=Qax ltS (all_ bs l)
theorem rkd_perm(bs:List AB)(l:AL):(rkd bs l).Perm (all_ bs l):=(Qbl swoS _).1
theorem all_ln(bs:List AB)(l:AL):(all_ bs l).length≤bs.length:=by
 have:=List.length_filter_le (rk l) (zs bs 0)
 rwa [zs_len] at this
theorem rkd_len(bs:List AB)(l:AL):(rkd bs l).length≤bs.length:=by
 rw [(rkd_perm bs l).length_eq]; exact all_ln bs l
theorem rkd_bef(bs:List AB)(l:AL):Bef (rkd bs l):=sort_bef (List.Pairwise.filter _ (zs_idx bs 0).1)
theorem Qbj{bs:List AB}{l:AL}{s:SH} : s∈rkd bs l↔s∈zs bs 0∧rk l s=true:=by
 rw [(rkd_perm bs l).mem_iff]; exact List.mem_filter

theorem mnI_eq(a b:Int):mnI a b=min a b:=by
 by_cases h:b<a
 ·rw [mnI,decide_eq_true h,cond_true]; omega
 ·rw [mnI,decide_eq_false h,cond_false]; omega
def tk(p:SH→Int):Int→List SH→List AW
 | _,[]=>[]
 | n,s::r=>bif decide (min n s.bid.Units=0) then [] else ⟨s.index,min n s.bid.Units,p s⟩::tk p (n-min n s.bid.Units) r
def lowP:Int→Int→List SH→Int
 | p,_,[]=>p
 | p,n,s::r=>lowP (bif decide (0<min n s.bid.Units) then s.bid.Price else p) (n-min n s.bid.Units) r
def rejP(p:Int):Int→List SH→Int
 | _,[]=>p
 | n,s::r=>bif decide (min n s.bid.Units<s.bid.Units) then s.bid.Price else rejP p (n-min n s.bid.Units) r
abbrev uOk(r:List SH):Prop:=∀s∈r,1≤s.bid.Units∧s.bid.Units≤1048576

theorem f53r1_c(a:AA)(l:AL)(p:Int):∀(r:List AB)(i:Int)(acc:List SH),acc.length+r.length≤1000→f53r1n2L a l p r i acc=some (.exit0 (acc++(zs r i).filter (rk l)))
 | [],i,acc,_=>by rw [f53r1n2L,zs,List.filter_nil,List.append_nil]
 | b::r,i,acc,h=>by
  rw [List.length_cons] at h;rw [f53r1n2L,zs,List.filter_cons];have hr:rk l ⟨i,0,b⟩=(seq b.Lot l.Name&&decide (l.Reserve≤b.Price)):=rfl;rw [hr];cases seq b.Lot l.Name with
  | false=>exact f53r1_c a l p r (i+1) acc (by omega)
  | true =>
   cases decide (l.Reserve≤b.Price) with
   | false=>exact f53r1_c a l p r (i+1) acc (by omega)
   | true =>
    simp only [cond_true,Bool.and_self,if_true];rw [req,fitSmall (by omega) (by omega),cond_true,f53r1_c a l p r (i+1) (acc++[(⟨i,0,b⟩:SH)]) (by rw [List.length_append]; simp; omega),List.append_assoc]; rfl
theorem f53r1_1(a:AA)(l:AL)(p:Int)(h:a.Bids.length≤1000):(f53r1n1 a l p).bind (fun o=>match o with | .norm v=>f54r1 v)=some (rkd a.Bids l):=by
 unfold f53r1n1;rw [f53r1n2_run a l p [] (maxSmall (by omega)),f53r1_c a l p a.Bids 0 [] (by simp; omega)];simp only [Option.bind_some,List.nil_append];exact f54_eq (by have:=all_ln a.Bids l; unfold all_ at this; omega)
theorem f53r1_2(a:AA)(l:AL)(p:Int)(h:a.Bids.length≤1000){γ:Type}(k:List SH→Option γ):((f53r1n1 a l p).bind fun o=>match o with | .norm v=>(f54r1 v).bind k)=k (rkd a.Bids l):=by
 have:=f53r1_1 a l p h;cases e:f53r1n1 a l p with
 | none=>rw [e] at this; cases this
 | some o =>
  cases o with
  | norm v =>
   rw [e] at this;simp only [Option.bind_some] at this ⊢;rw [this]; rfl

theorem f53r3_c(a:AA)(l:AL)(p:Int):∀(r:List AB)(i:Int)(acc:List SH),acc.length+r.length≤1000→f53r3n2L a l p r i acc=some (.exit0 (acc++(zs r i).filter (rk l)))
 | [],i,acc,_=>by rw [f53r3n2L,zs,List.filter_nil,List.append_nil]
 | b::r,i,acc,h=>by
  rw [List.length_cons] at h;rw [f53r3n2L,zs,List.filter_cons];have hr:rk l ⟨i,0,b⟩=(seq b.Lot l.Name&&decide (l.Reserve≤b.Price)):=rfl;rw [hr];cases seq b.Lot l.Name with
  | false=>exact f53r3_c a l p r (i+1) acc (by omega)
  | true =>
   cases decide (l.Reserve≤b.Price) with
   | false=>exact f53r3_c a l p r (i+1) acc (by omega)
   | true =>
    simp only [cond_true,Bool.and_self,if_true];rw [req,fitSmall (by omega) (by omega),cond_true,f53r3_c a l p r (i+1) (acc++[(⟨i,0,b⟩:SH)]) (by rw [List.length_append]; simp; omega),List.append_assoc]; rfl
theorem f53r3_1(a:AA)(l:AL)(p:Int)(h:a.Bids.length≤1000):(f53r3n1 a l p).bind (fun o=>match o with | .norm v=>f54r1 v)=some (rkd a.Bids l):=by
 unfold f53r3n1;rw [f53r3n2_run a l p [] (maxSmall (by omega)),f53r3_c a l p a.Bids 0 [] (by simp; omega)];simp only [Option.bind_some,List.nil_append];exact f54_eq (by have:=all_ln a.Bids l; unfold all_ at this; omega)
theorem f53r3_2(a:AA)(l:AL)(p:Int)(h:a.Bids.length≤1000){γ:Type}(k:List SH→Option γ):((f53r3n1 a l p).bind fun o=>match o with | .norm v=>(f54r1 v).bind k)=k (rkd a.Bids l):=by
 have:=f53r3_1 a l p h;cases e:f53r3n1 a l p with
 | none=>rw [e] at this; cases this
 | some o =>
  cases o with
  | norm v =>
   rw [e] at this;simp only [Option.bind_some] at this ⊢;rw [this]; rfl


theorem f53r6_c(a:AA)(l:AL)(p:Int)(o:List AW):∀(r:List AB)(i:Int)(acc:List SH),acc.length+r.length≤1000→f53r6n2L a l p o r i acc=some (.exit0 (acc++(zs r i).filter (rk l)))
 | [],i,acc,_=>by rw [f53r6n2L,zs,List.filter_nil,List.append_nil]
 | b::r,i,acc,h=>by
  rw [List.length_cons] at h;rw [f53r6n2L,zs,List.filter_cons];have hr:rk l ⟨i,0,b⟩=(seq b.Lot l.Name&&decide (l.Reserve≤b.Price)):=rfl;rw [hr];cases seq b.Lot l.Name with
  | false=>exact f53r6_c a l p o r (i+1) acc (by omega)
  | true =>
   cases decide (l.Reserve≤b.Price) with
   | false=>exact f53r6_c a l p o r (i+1) acc (by omega)
   | true =>
    simp only [cond_true,Bool.and_self,if_true];rw [req,fitSmall (by omega) (by omega),cond_true,f53r6_c a l p o r (i+1) (acc++[(⟨i,0,b⟩:SH)]) (by rw [List.length_append]; simp; omega),List.append_assoc]; rfl
theorem f53r6_1(a:AA)(l:AL)(p:Int)(o:List AW)(h:a.Bids.length≤1000):(f53r6n1 a l p o).bind (fun o=>match o with | .norm v=>f54r1 v)=some (rkd a.Bids l):=by
 unfold f53r6n1;rw [f53r6n2_run a l p o [] (maxSmall (by omega)),f53r6_c a l p o a.Bids 0 [] (by simp; omega)];simp only [Option.bind_some,List.nil_append];exact f54_eq (by have:=all_ln a.Bids l; unfold all_ at this; omega)
theorem f53r6_2(a:AA)(l:AL)(p:Int)(o:List AW)(h:a.Bids.length≤1000){γ:Type}(k:List SH→Option γ):((f53r6n1 a l p o).bind fun o=>match o with | .norm v=>(f54r1 v).bind k)=k (rkd a.Bids l):=by
 have:=f53r6_1 a l p o h;cases e:f53r6n1 a l p o with
 | none=>rw [e] at this; cases this
 | some o =>
  cases o with
  | norm v =>
   rw [e] at this;simp only [Option.bind_some] at this ⊢;rw [this]; rfl

theorem f53r7_c(a:AA)(l:AL)(p:Int)(o:List AW):∀(r:List AB)(i:Int)(acc:List SH),acc.length+r.length≤1000→f53r7n2L a l p o r i acc=some (.exit0 (acc++(zs r i).filter (rk l)))
 | [],i,acc,_=>by rw [f53r7n2L,zs,List.filter_nil,List.append_nil]
 | b::r,i,acc,h=>by
  rw [List.length_cons] at h;rw [f53r7n2L,zs,List.filter_cons];have hr:rk l ⟨i,0,b⟩=(seq b.Lot l.Name&&decide (l.Reserve≤b.Price)):=rfl;rw [hr];cases seq b.Lot l.Name with
  | false=>exact f53r7_c a l p o r (i+1) acc (by omega)
  | true =>
   cases decide (l.Reserve≤b.Price) with
   | false=>exact f53r7_c a l p o r (i+1) acc (by omega)
   | true =>
    simp only [cond_true,Bool.and_self,if_true];rw [req,fitSmall (by omega) (by omega),cond_true,f53r7_c a l p o r (i+1) (acc++[(⟨i,0,b⟩:SH)]) (by rw [List.length_append]; simp; omega),List.append_assoc]; rfl
theorem f53r7_1(a:AA)(l:AL)(p:Int)(o:List AW)(h:a.Bids.length≤1000):(f53r7n1 a l p o).bind (fun o=>match o with | .norm v=>f54r1 v)=some (rkd a.Bids l):=by
 unfold f53r7n1;rw [f53r7n2_run a l p o [] (maxSmall (by omega)),f53r7_c a l p o a.Bids 0 [] (by simp; omega)];simp only [Option.bind_some,List.nil_append];exact f54_eq (by have:=all_ln a.Bids l; unfold all_ at this; omega)
theorem f53r7_2(a:AA)(l:AL)(p:Int)(o:List AW)(h:a.Bids.length≤1000){γ:Type}(k:List SH→Option γ):((f53r7n1 a l p o).bind fun o=>match o with | .norm v=>(f54r1 v).bind k)=k (rkd a.Bids l):=by
 have:=f53r7_1 a l p o h;cases e:f53r7n1 a l p o with
 | none=>rw [e] at this; cases this
 | some o =>
  cases o with
  | norm v =>
   rw [e] at this;simp only [Option.bind_some] at this ⊢;rw [this]; rfl

theorem f53r8_c(a:AA)(l:AL)(p:Int)(o:List AW):∀(r:List AB)(i:Int)(acc:List SH),acc.length+r.length≤1000→f53r8n2L a l p o r i acc=some (.exit0 (acc++(zs r i).filter (rk l)))
 | [],i,acc,_=>by rw [f53r8n2L,zs,List.filter_nil,List.append_nil]
 | b::r,i,acc,h=>by
  rw [List.length_cons] at h;rw [f53r8n2L,zs,List.filter_cons];have hr:rk l ⟨i,0,b⟩=(seq b.Lot l.Name&&decide (l.Reserve≤b.Price)):=rfl;rw [hr];cases seq b.Lot l.Name with
  | false=>exact f53r8_c a l p o r (i+1) acc (by omega)
  | true =>
   cases decide (l.Reserve≤b.Price) with
   | false=>exact f53r8_c a l p o r (i+1) acc (by omega)
   | true =>
    simp only [cond_true,Bool.and_self,if_true];rw [req,fitSmall (by omega) (by omega),cond_true,f53r8_c a l p o r (i+1) (acc++[(⟨i,0,b⟩:SH)]) (by rw [List.length_append]; simp; omega),List.append_assoc]; rfl
theorem f53r8_1(a:AA)(l:AL)(p:Int)(o:List AW)(h:a.Bids.length≤1000):(f53r8n1 a l p o).bind (fun o=>match o with | .norm v=>f54r1 v)=some (rkd a.Bids l):=by
 unfold f53r8n1;rw [f53r8n2_run a l p o [] (maxSmall (by omega)),f53r8_c a l p o a.Bids 0 [] (by simp; omega)];simp only [Option.bind_some,List.nil_append];exact f54_eq (by have:=all_ln a.Bids l; unfold all_ at this; omega)
theorem f53r8_2(a:AA)(l:AL)(p:Int)(o:List AW)(h:a.Bids.length≤1000){γ:Type}(k:List SH→Option γ):((f53r8n1 a l p o).bind fun o=>match o with | .norm v=>(f54r1 v).bind k)=k (rkd a.Bids l):=by
 have:=f53r8_1 a l p o h;cases e:f53r8n1 a l p o with
 | none=>rw [e] at this; cases this
 | some o =>
  cases o with
  | norm v =>
   rw [e] at this;simp only [Option.bind_some] at this ⊢;rw [this]; rfl
theorem f53r6_l(a:AA)(l:AL)(p:Int){xs:List SH}(hx:xs.length≤1000)(ho:uOk xs):∀(r:List SH)(f k:Nat)(n:Int)(o:List AW),xs.drop k=r→r.length<f→0≤n→n≤1048576→o.length+r.length≤100000 →
  ∃z,f53r6n4 f xs a l p n (k:Int) o=some z∧(z = .exit2 (o++tk (fun _=>p) n r)∨z = .ret (o++tk (fun _=>p) n r))
 | _,0,_,_,_,_,h,_,_,_=>absurd h (Nat.not_lt_zero _)
 | [],f+1,k,n,o,hd,_,_,_,_=>by
  have:=Qbb hd;rw [f53r6n4,decide_eq_false (by omega),cond_false,tk,List.append_nil];exact ⟨_,rfl,.inl rfl⟩
 | s::r,f+1,k,n,o,hd,hf,h0,h1,hl=>by
  have hk:=dropAt hd;have hu:=ho s (List.mem_of_mem_drop (hd ▸ List.mem_cons_self));have hn':0≤n-min n s.bid.Units∧n-min n s.bid.Units≤1048576:=by omega
  have hw:wr64 (n-min n s.bid.Units)=n-min n s.bid.Units:=wrIn (by omega) (by omega);rw [f53r6n4,decide_eq_true (by have:=hk.2.1; omega),cond_true];unfold f53r6n3 f12y2n0;rw [hk.1];simp only [Option.bind_some,mnI_eq,hw];rw [tk]
  by_cases hz:min n s.bid.Units=0
  ·rw [decide_eq_true hz];exact ⟨_,rfl,.inr (by rw [cond_true,List.append_nil])⟩
  ·rw [decide_eq_false hz,cond_false,cond_false,req,fitSmall (by simp at hl; omega) (by omega),cond_true,wrSucc (by have:=hk.2.1; omega)];obtain ⟨z,e1,e2⟩:=f53r6_l a l p hx ho r f (k+1) (n-min n s.bid.Units) (o++[⟨s.index,min n s.bid.Units,p⟩]) hk.2.2 (by simpa using hf) hn'.1 hn'.2 (by simp at hl ⊢; omega);rw [List.append_assoc] at e2;exact ⟨z,e1,e2⟩
theorem f53r6_eq{a:AA}{l:AL}(p:Int)(o:List AW)(hb:a.Bids.length≤100)(hu:∀b∈a.Bids,1≤b.Units∧b.Units≤1048576)(h0:0≤l.Units)(h1:l.Units≤1048576)(hl:o.length≤10000) :
  ∃q,f53r6 a l p o=some (q,o++tk (fun _=>p) l.Units (rkd a.Bids l)):=by
 have hr:=rkd_len a.Bids l;obtain ⟨z,e1,e2⟩:=f53r6_l a l p (xs:=rkd a.Bids l) (by omega) (fun s hs=>hu _ (zs_mem (Qbj.1 hs).1)) (rkd a.Bids l) FUEL 0 l.Units o rfl (Qby (by omega)) h0 h1 (by omega);have e1':f53r6n4 FUEL (rkd a.Bids l) a l p l.Units 0 o=some z:=e1;unfold f53r6 f53r6n0;rw [f53r6_2 a l p o (by omega),e1'];rcases e2 with rfl | rfl
 ·exact ⟨_,rfl⟩
 ·exact ⟨_,rfl⟩
theorem f53r7_l(a:AA)(l:AL)(p:Int){xs:List SH}(hx:xs.length≤1000)(ho:uOk xs):∀(r:List SH)(f k:Nat)(n:Int)(o:List AW),xs.drop k=r→r.length<f→0≤n→n≤1048576→o.length+r.length≤100000 →
  ∃z,f53r7n4 f xs a l p n (k:Int) o=some z∧(z = .exit2 (o++tk (fun _=>p) n r)∨z = .ret (o++tk (fun _=>p) n r))
 | _,0,_,_,_,_,h,_,_,_=>absurd h (Nat.not_lt_zero _)
 | [],f+1,k,n,o,hd,_,_,_,_=>by
  have:=Qbb hd;rw [f53r7n4,decide_eq_false (by omega),cond_false,tk,List.append_nil];exact ⟨_,rfl,.inl rfl⟩
 | s::r,f+1,k,n,o,hd,hf,h0,h1,hl=>by
  have hk:=dropAt hd;have hu:=ho s (List.mem_of_mem_drop (hd ▸ List.mem_cons_self));have hn':0≤n-min n s.bid.Units∧n-min n s.bid.Units≤1048576:=by omega
  have hw:wr64 (n-min n s.bid.Units)=n-min n s.bid.Units:=wrIn (by omega) (by omega);rw [f53r7n4,decide_eq_true (by have:=hk.2.1; omega),cond_true];unfold f53r7n3 f12y4n0;rw [hk.1];simp only [Option.bind_some,mnI_eq,hw];rw [tk]
  by_cases hz:min n s.bid.Units=0
  ·rw [decide_eq_true hz];exact ⟨_,rfl,.inr (by rw [cond_true,List.append_nil])⟩
  ·rw [decide_eq_false hz,cond_false,cond_false,req,fitSmall (by simp at hl; omega) (by omega),cond_true,wrSucc (by have:=hk.2.1; omega)];obtain ⟨z,e1,e2⟩:=f53r7_l a l p hx ho r f (k+1) (n-min n s.bid.Units) (o++[⟨s.index,min n s.bid.Units,p⟩]) hk.2.2 (by simpa using hf) hn'.1 hn'.2 (by simp at hl ⊢; omega);rw [List.append_assoc] at e2;exact ⟨z,e1,e2⟩
theorem f53r7_eq{a:AA}{l:AL}(p:Int)(o:List AW)(hb:a.Bids.length≤100)(hu:∀b∈a.Bids,1≤b.Units∧b.Units≤1048576)(h0:0≤l.Units)(h1:l.Units≤1048576)(hl:o.length≤10000) :
  ∃q,f53r7 a l p o=some (q,o++tk (fun _=>p) l.Units (rkd a.Bids l)):=by
 have hr:=rkd_len a.Bids l;obtain ⟨z,e1,e2⟩:=f53r7_l a l p (xs:=rkd a.Bids l) (by omega) (fun s hs=>hu _ (zs_mem (Qbj.1 hs).1)) (rkd a.Bids l) FUEL 0 l.Units o rfl (Qby (by omega)) h0 h1 (by omega);have e1':f53r7n4 FUEL (rkd a.Bids l) a l p l.Units 0 o=some z:=e1;unfold f53r7 f53r7n0;rw [f53r7_2 a l p o (by omega),e1'];rcases e2 with rfl | rfl
 ·exact ⟨_,rfl⟩
 ·exact ⟨_,rfl⟩
theorem f53r8_l(a:AA)(l:AL)(p:Int){xs:List SH}(hx:xs.length≤1000)(ho:uOk xs):∀(r:List SH)(f k:Nat)(n:Int)(o:List AW),xs.drop k=r→r.length<f→0≤n→n≤1048576→o.length+r.length≤100000 →
  ∃z,f53r8n4 f xs a l p n (k:Int) o=some z∧(z = .exit2 (o++tk (fun s=>s.bid.Price) n r)∨z = .ret (o++tk (fun s=>s.bid.Price) n r))
 | _,0,_,_,_,_,h,_,_,_=>absurd h (Nat.not_lt_zero _)
 | [],f+1,k,n,o,hd,_,_,_,_=>by
  have:=Qbb hd;rw [f53r8n4,decide_eq_false (by omega),cond_false,tk,List.append_nil];exact ⟨_,rfl,.inl rfl⟩
 | s::r,f+1,k,n,o,hd,hf,h0,h1,hl=>by
  have hk:=dropAt hd;have hu:=ho s (List.mem_of_mem_drop (hd ▸ List.mem_cons_self));have hn':0≤n-min n s.bid.Units∧n-min n s.bid.Units≤1048576:=by omega
  have hw:wr64 (n-min n s.bid.Units)=n-min n s.bid.Units:=wrIn (by omega) (by omega);rw [f53r8n4,decide_eq_true (by have:=hk.2.1; omega),cond_true];unfold f53r8n3 f12y6n0;rw [hk.1];simp only [Option.bind_some,mnI_eq,hw];rw [tk]
  by_cases hz:min n s.bid.Units=0
  ·rw [decide_eq_true hz];exact ⟨_,rfl,.inr (by rw [cond_true,List.append_nil])⟩
  ·rw [decide_eq_false hz,cond_false,cond_false,req,fitSmall (by simp at hl; omega) (by omega),cond_true,wrSucc (by have:=hk.2.1; omega)];obtain ⟨z,e1,e2⟩:=f53r8_l a l p hx ho r f (k+1) (n-min n s.bid.Units) (o++[⟨s.index,min n s.bid.Units,s.bid.Price⟩]) hk.2.2 (by simpa using hf) hn'.1 hn'.2 (by simp at hl ⊢; omega);rw [List.append_assoc] at e2;exact ⟨z,e1,e2⟩
theorem f53r8_eq{a:AA}{l:AL}(p:Int)(o:List AW)(hb:a.Bids.length≤100)(hu:∀b∈a.Bids,1≤b.Units∧b.Units≤1048576)(h0:0≤l.Units)(h1:l.Units≤1048576)(hl:o.length≤10000) :
  ∃q,f53r8 a l p o=some (q,o++tk (fun s=>s.bid.Price) l.Units (rkd a.Bids l)):=by
 have hr:=rkd_len a.Bids l;obtain ⟨z,e1,e2⟩:=f53r8_l a l p (xs:=rkd a.Bids l) (by omega) (fun s hs=>hu _ (zs_mem (Qbj.1 hs).1)) (rkd a.Bids l) FUEL 0 l.Units o rfl (Qby (by omega)) h0 h1 (by omega);have e1':f53r8n4 FUEL (rkd a.Bids l) a l p l.Units 0 o=some z:=e1;unfold f53r8 f53r8n0;rw [f53r8_2 a l p o (by omega),e1'];rcases e2 with rfl | rfl
 ·exact ⟨_,rfl⟩
 ·exact ⟨_,rfl⟩
theorem f53r1_l(a:AA)(l:AL){xs:List SH}(hx:xs.length≤1000)(ho:uOk xs):∀(r:List SH)(f k:Nat)(n p:Int),xs.drop k=r→r.length<f→0≤n→n≤1048576 →
  f53r1n4 f xs a l n (k:Int) p=some (.exit2 (lowP p n r))
 | _,0,_,_,_,_,h,_,_=>absurd h (Nat.not_lt_zero _)
 | [],f+1,k,n,p,hd,_,_,_=>by
  have:=Qbb hd;rw [f53r1n4,decide_eq_false (by omega),cond_false,lowP]
 | s::r,f+1,k,n,p,hd,hf,h0,h1=>by
  have hk:=dropAt hd;have hu:=ho s (List.mem_of_mem_drop (hd ▸ List.mem_cons_self));have hn':0≤n-min n s.bid.Units∧n-min n s.bid.Units≤1048576:=by omega
  have hw:wr64 (n-min n s.bid.Units)=n-min n s.bid.Units:=wrIn (by omega) (by omega);rw [f53r1n4,decide_eq_true (by have:=hk.2.1; omega),cond_true];unfold f53r1n3 f56y1n0;rw [hk.1];simp only [Option.bind_some,mnI_eq,hw];rw [lowP];cases decide (0<min n s.bid.Units)<;>simp only [cond_true,cond_false,Option.bind_some]<;>rw [wrSucc (by have:=hk.2.1; omega)]<;>exact f53r1_l a l hx ho r f (k+1) _ _ hk.2.2 (by simpa using hf) hn'.1 hn'.2
theorem f56_eq{a:AA}{l:AL}(hb:a.Bids.length≤100)(hu:∀b∈a.Bids,1≤b.Units∧b.Units≤1048576)(h0:0≤l.Units)(h1:l.Units≤1048576) :
  f56r1 l a=some (lowP l.Reserve l.Units (rkd a.Bids l)):=by
 have hr:=rkd_len a.Bids l;have e1:=f53r1_l a l (xs:=rkd a.Bids l) (by omega) (fun s hs=>hu _ (zs_mem (Qbj.1 hs).1)) (rkd a.Bids l) FUEL 0 l.Units l.Reserve rfl (Qby (by omega)) h0 h1;have e1':f53r1n4 FUEL (rkd a.Bids l) a l l.Units 0 l.Reserve=_:=e1;have e2:f53r1 a l l.Reserve=some (lowP l.Reserve l.Units (rkd a.Bids l)):=by
  unfold f53r1 f53r1n0;rw [f53r1_2 a l l.Reserve (by omega),e1']; rfl
 unfold f56r1 f56r1n0 f56r1n1 f56r1n2;rw [e2]; rfl
theorem f53r3_l(a:AA)(l:AL)(p:Int){xs:List SH}(hx:xs.length≤1000)(ho:uOk xs):∀(r:List SH)(f k:Nat)(n q:Int),xs.drop k=r→r.length<f→0≤n→n≤1048576 →
  ∃z,f53r3n4 f xs a l p n (k:Int)=some z∧(z = .exit2∧rejP q n r=q∨z = .ret (rejP q n r))
 | _,0,_,_,_,_,h,_,_=>absurd h (Nat.not_lt_zero _)
 | [],f+1,k,n,q,hd,_,_,_=>by
  have:=Qbb hd;rw [f53r3n4,decide_eq_false (by omega),cond_false,rejP];exact ⟨_,rfl,.inl ⟨rfl,rfl⟩⟩
 | s::r,f+1,k,n,q,hd,hf,h0,h1=>by
  have hk:=dropAt hd;have hu:=ho s (List.mem_of_mem_drop (hd ▸ List.mem_cons_self));have hn':0≤n-min n s.bid.Units∧n-min n s.bid.Units≤1048576:=by omega
  have hw:wr64 (n-min n s.bid.Units)=n-min n s.bid.Units:=wrIn (by omega) (by omega);rw [f53r3n4,decide_eq_true (by have:=hk.2.1; omega),cond_true];unfold f53r3n3 f57y1n0;rw [hk.1];simp only [Option.bind_some,mnI_eq,hw];rw [rejP];cases decide (min n s.bid.Units<s.bid.Units) with
  | true=>exact ⟨_,rfl,.inr rfl⟩
  | false =>
   simp only [cond_false,Option.bind_some];rw [wrSucc (by have:=hk.2.1; omega)];exact f53r3_l a l p hx ho r f (k+1) _ q hk.2.2 (by simpa using hf) hn'.1 hn'.2
theorem f57_eq{a:AA}{l:AL}(hb:a.Bids.length≤100)(hu:∀b∈a.Bids,1≤b.Units∧b.Units≤1048576)(h0:0≤l.Units)(h1:l.Units≤1048576) :
  f57r1 l a=some (rejP l.Reserve l.Units (rkd a.Bids l)):=by
 have hr:=rkd_len a.Bids l;obtain ⟨z,e1,e3⟩:=f53r3_l a l 0 (xs:=rkd a.Bids l) (by omega) (fun s hs=>hu _ (zs_mem (Qbj.1 hs).1)) (rkd a.Bids l) FUEL 0 l.Units l.Reserve rfl (Qby (by omega)) h0 h1;have e1':f53r3n4 FUEL (rkd a.Bids l) a l 0 l.Units 0=some z:=e1;have e2:f53r3n0 a l 0=(some z).bind fun o=>match o with | .exit2=>some .norm | .ret v=>some (.ret v):=by
  unfold f53r3n0;rw [f53r3_2 a l 0 (by omega),e1'];cases z<;>rfl
 unfold f57r1 f57r1n0 f57r1n1 f57r1n2 f53r3;rw [e2];rcases e3 with ⟨rfl,e3⟩ | rfl
 ·rw [e3]; rfl
 ·rfl
end Go.Proofs.Ythpceddjepbamaa
namespace Go.Proofs.Ythpceddjepbamaa
set_option linter.unusedVariables false
set_option linter.unusedSimpArgs false
open Go.RowKit
theorem rk_iff{l:AL}{s:SH} : rk l s=true↔s.bid.Lot=l.Name∧l.Reserve≤s.bid.Price:=by
 unfold rk; rw [Bool.and_eq_true,seq_iff,decide_eq_true_eq]
def sumU:List SH→Int
 | []=>0
 | s::r=>s.bid.Units+sumU r
theorem sumU_app:∀a b:List SH,sumU (a++b)=sumU a+sumU b
 | [],b=>by simp [sumU]
 | x::a,b=>by rw [List.cons_append,sumU,sumU,sumU_app a b]; omega
theorem sumU_perm{a b:List SH}(h:a.Perm b):sumU a=sumU b:=by
 induction h with
 | nil=>rfl
 | cons x _ ih=>simp only [sumU,ih]
 | swap x y l=>simp only [sumU]; omega
 | trans _ _ h1 h2=>exact h1.trans h2

def gt(n:Int)(T:List SH)(s:SH):Int:=min (max (n-sumU (T.filter fun t=>bef t s)) 0) s.bid.Units
theorem filt_pre{P r:List SH}{s:SH}(h:Bef (P++s::r)):(P++s::r).filter (fun t=>bef t s)=P:=by
 have h':=List.pairwise_append.1 h;have h2:=List.pairwise_cons.1 h'.2.1;rw [List.filter_append,List.filter_cons,bef_irr,List.filter_eq_self.2 (fun t ht=>h'.2.2 t ht s List.mem_cons_self),List.filter_eq_nil_iff.2 (fun t ht=>by rw [bef_asym (h2.1 t ht)]; simp)]
 simp
theorem tk_zero{p:SH→Int} : ∀{r:List SH},uOk r→tk p 0 r=[]
 | [],_=>rfl
 | s::r,h=>by rw [tk,decide_eq_true (by have:=h s List.mem_cons_self; omega),cond_true]
section
variable {U:Int} {T:List SH}
theorem gt_at{P r:List SH}{s:SH}(h:T=P++s::r)(hT:Bef T):gt U T s=min (max (U-sumU P) 0) s.bid.Units:=by
 unfold gt; rw [h,filt_pre (h ▸ hT)]
theorem step_n{P:List SH}{s:SH}{n:Int}(hn:n=max (U-sumU P) 0)(hs:1≤s.bid.Units):n-min n s.bid.Units=max (U-sumU (P++[s])) 0:=by
 rw [sumU_app]; simp only [sumU]; omega
theorem tk_eq(p:SH→Int)(hT:Bef T)(hu:uOk T):∀(r P:List SH)(n:Int),T=P++r→n=max (U-sumU P) 0 →
  tk p n r=(r.filter fun s=>!(decide (gt U T s=0))).map fun s=>⟨s.index,gt U T s,p s⟩
 | [],_,_,_,_=>rfl
 | s::r,P,n,h,hn=>by
  have hs:=hu s (by rw [h]; simp);have hg:=gt_at (U:=U) h hT;rw [←hn] at hg;have ih:=tk_eq p hT hu r (P++[s]) (n-min n s.bid.Units) (by rw [h]; simp) (step_n hn hs.1);rw [tk,List.filter_cons,hg]
  by_cases hz:min n s.bid.Units=0
  ·rw [decide_eq_true hz,cond_true,Bool.not_true];have hn0:n-min n s.bid.Units=0:=by omega
   rw [hn0,tk_zero (fun t ht=>hu t (by rw [h]; simp [ht]))] at ih;simpa using ih
  ·rw [decide_eq_false hz,cond_false,ih];simp [hg]
def low(q:Int)(W:List SH):Int:=W.foldl (fun _ s=>s.bid.Price) q
theorem lowP_eq(hT:Bef T)(hu:uOk T):∀(r P:List SH)(n q:Int),T=P++r→n=max (U-sumU P) 0 →
  lowP q n r=low q (r.filter fun s=>!(decide (gt U T s=0)))
 | [],_,_,_,_,_=>rfl
 | s::r,P,n,q,h,hn=>by
  have hs:=hu s (by rw [h]; simp);have hg:=gt_at (U:=U) h hT;rw [←hn] at hg;rw [lowP,lowP_eq hT hu r (P++[s]) (n-min n s.bid.Units) _ (by rw [h]; simp) (step_n hn hs.1),List.filter_cons,hg]
  by_cases hz:min n s.bid.Units=0
  ·rw [decide_eq_true hz,decide_eq_false (by omega)]; rfl
  ·rw [decide_eq_false hz,decide_eq_true (by omega)]; rfl
def rej(q:Int)(g:SH→Int)(T:List SH):Int:=match T.find? (fun s=>decide (g s<s.bid.Units)) with | some s=>s.bid.Price | none=>q
theorem rejP_eq(hT:Bef T)(hu:uOk T)(q:Int):∀(r P:List SH)(n:Int),T=P++r→n=max (U-sumU P) 0→rejP q n r=rej q (gt U T) r
 | [],_,_,_,_=>rfl
 | s::r,P,n,h,hn=>by
  have hs:=hu s (by rw [h]; simp);have hg:=gt_at (U:=U) h hT;rw [←hn] at hg;rw [rejP,rejP_eq hT hu q r (P++[s]) (n-min n s.bid.Units) (by rw [h]; simp) (step_n hn hs.1),rej,rej,List.find?_cons,hg];cases decide (min n s.bid.Units<s.bid.Units)<;>rfl
end
def rkG(bs:List AB)(l:AL)(s:SH):Int:=gt l.Units (rkd bs l) s
def won(bs:List AB)(l:AL):List SH:=(rkd bs l).filter fun s=>!(decide (rkG bs l s=0))
def lowA(bs:List AB)(l:AL):Int:=low l.Reserve (won bs l)
def rejA(bs:List AB)(l:AL):Int:=rej l.Reserve (rkG bs l) (rkd bs l)
def prc(rule:Int)(bs:List AB)(l:AL)(s:SH):Int:=bif decide (rule=1) then lowA bs l else bif decide (rule=2) then rejA bs l else s.bid.Price
def awL(rule:Int)(bs:List AB)(l:AL):List AW:=(won bs l).map fun s=>⟨s.index,rkG bs l s,prc rule bs l s⟩
theorem rkd_uok{bs:List AB}{l:AL}(hu:∀b∈bs,1≤b.Units∧b.Units≤1048576):uOk (rkd bs l):=fun s hs=>hu _ (zs_mem (Qbj.1 hs).1)
theorem tkA{bs:List AB}{l:AL}(hu:∀b∈bs,1≤b.Units∧b.Units≤1048576)(h0:0≤l.Units)(p:SH→Int):tk p l.Units (rkd bs l)=(won bs l).map fun s=>⟨s.index,rkG bs l s,p s⟩ :=
 tk_eq p (rkd_bef bs l) (rkd_uok hu) (rkd bs l) [] l.Units rfl (by simp [sumU]; omega)
theorem f12n2_eq{a:AA}(hv:Vl a){k:Nat}{l:AL}(hk:at? a.Lots (k:Int)=some l)(hm:l∈a.Lots)(o:List AW)(ho:o.length≤10000):f12n2 a (k:Int) o=some (.norm (o++awL a.Rule a.Bids l)):=by
 have hu:∀b∈a.Bids,1≤b.Units∧b.Units≤1048576:=fun b hb=>⟨(hv.bids b hb).2.1,(hv.bids b hb).2.2.1⟩;have hl:=hv.lots l hm;have h0:0≤l.Units:=by omega
 have e35:f35r1 a l=some ():=rfl;have e36:f36r1=some ():=rfl;unfold f12n2;rw [hk];simp only [Option.bind_some,e35,e36];unfold awL prc
 by_cases h1:a.Rule=1
 ·rw [decide_eq_true h1,cond_true,f56_eq hv.nb hu h0 hl.2.2.1];obtain ⟨q,e⟩:=f53r6_eq (a:=a) (l:=l) (lowP l.Reserve l.Units (rkd a.Bids l)) o hv.nb hu h0 hl.2.2.1 ho;simp only [Option.bind_some,cond_true];unfold f12n3;rw [e,tkA hu h0];have e2:lowP l.Reserve l.Units (rkd a.Bids l)=lowA a.Bids l:=lowP_eq (rkd_bef a.Bids l) (rkd_uok hu) (rkd a.Bids l) [] l.Units l.Reserve rfl (by simp [sumU]; omega);rw [e2];cases q<;>rfl
 ·rw [decide_eq_false h1,cond_false]
  by_cases h2:a.Rule=2
  ·rw [decide_eq_true h2,cond_true,f57_eq hv.nb hu h0 hl.2.2.1];obtain ⟨q,e⟩:=f53r7_eq (a:=a) (l:=l) (rejP l.Reserve l.Units (rkd a.Bids l)) o hv.nb hu h0 hl.2.2.1 ho;simp only [Option.bind_some,cond_true,cond_false];unfold f12n4;rw [e,tkA hu h0];have e2:rejP l.Reserve l.Units (rkd a.Bids l)=rejA a.Bids l:=rejP_eq (rkd_bef a.Bids l) (rkd_uok hu) l.Reserve (rkd a.Bids l) [] l.Units rfl (by simp [sumU]; omega);rw [e2];cases q<;>rfl
  ·rw [decide_eq_false h2,cond_false];obtain ⟨q,e⟩:=f53r8_eq (a:=a) (l:=l) 0 o hv.nb hu h0 hl.2.2.1 ho;unfold f12n5;rw [e,tkA hu h0];cases q<;>rfl
theorem awL_len(rule:Int)(bs:List AB)(l:AL):(awL rule bs l).length≤bs.length:=by
 unfold awL won;rw [List.length_map];exact Nat.le_trans (List.length_filter_le _ _) (rkd_len bs l)
theorem f12n6_at{a:AA}(hv:Vl a):∀(r:List AL)(f k:Nat)(o:List AW),a.Lots.drop k=r→r.length<f→o.length+100*r.length≤2000→f12n6 f a (k:Int) o=some (.exit0 (o++r.flatMap (awL a.Rule a.Bids)))
 | _,0,_,_,_,h,_=>absurd h (Nat.not_lt_zero _)
 | [],f+1,k,o,hd,_,_=>by
  have:=Qbb hd;rw [f12n6,decide_eq_false (by omega),cond_false,List.flatMap_nil,List.append_nil]
 | l::r,f+1,k,o,hd,hf,ho=>by
  have hk:=dropAt hd;have hnl:=hv.nl;have hnb:=hv.nb;have hw:=awL_len a.Rule a.Bids l;rw [List.length_cons] at ho hf;rw [f12n6,decide_eq_true (by have:=hk.2.1; omega),cond_true,f12n2_eq hv hk.1 (List.mem_of_mem_drop (hd ▸ List.mem_cons_self)) o (by omega)];simp only [Option.bind_some];rw [wrSucc (by have:=hk.2.1; omega),f12n6_at hv r f (k+1) _ hk.2.2 (by omega) (by rw [List.length_append]; omega),List.flatMap_cons,List.append_assoc]
def cA(x y:AW):Int:=cmpI x.Bid y.Bid
theorem cA_cmp:Cmp cA:=Cmp.int Qa.Bid
theorem f38_eq(x y:AW):f38 x y=some (cA x y):=by unfold f38 f38n0; rw [f39_eq]; rfl
def outA(a:AA):List AW:=a.Lots.flatMap (awL a.Rule a.Bids)
theorem outA_len{a:AA}(hv:Vl a):(outA a).length≤1600:=by
 have h:∀ls:List AL,(ls.flatMap (awL a.Rule a.Bids)).length≤100*ls.length:=fun ls=>by
  induction ls with
  | nil=>simp
  | cons l r ih =>
   have:=awL_len a.Rule a.Bids l;have:=hv.nb;rw [List.flatMap_cons,List.length_append,List.length_cons]; omega
 have:=h a.Lots;have:=hv.nl;unfold outA; omega
theorem f12_good{a:AA}(h:okA a=true):f12 a=some (sortL cA (outA a),0):=by
 have hv:=okA_vl h;have h1:f12n1 a=some (.norm (outA a)):=by
  unfold f12n1;have hl:=hv.nl;have:=f12n6_at hv a.Lots FUEL 0 [] rfl (Qby (by omega)) (by simp; omega);rw [show ((0:Nat):Int)=0 from rfl,List.nil_append] at this;rw [this]; rfl
 unfold f12 f12n0;rw [f31_eq,h,cond_true];simp only [Option.bind_some,decide_true,cond_true,h1];rw [so37_38_val f38_eq cA_cmp.SWO (by have:=outA_len hv; omega)];rfl
theorem f12_none{a:AA}(h:okA a=false):f12 a=some ([],8):=by
 unfold f12 f12n0;rw [f31_eq,h]; rfl

def Z(bs:List AB):List SH:=zs bs 0
def bfr(bs:List AB)(s:SH):Int:=sumU ((Z bs).filter fun t=>seq t.bid.Lot s.bid.Lot&&bef t s)
def gets(bs:List AB)(l:AL)(s:SH):Int:=bif decide (l.Reserve≤s.bid.Price) then min (max (l.Units-bfr bs s) 0) s.bid.Units else 0
theorem rkG_eq{bs:List AB}{l:AL}{s:SH}(h:rk l s=true):rkG bs l s=gets bs l s:=by
 rw [rk_iff] at h;unfold rkG gt gets bfr;rw [decide_eq_true h.2,cond_true,sumU_perm ((rkd_perm bs l).filter _)];unfold all_ Z;rw [List.filter_filter]
 congr 4
 apply List.filter_congr
 intro t _;unfold rk;rw [h.1];cases h1:bef t s with
 | false=>simp
 | true =>
  rw [bef_iff] at h1;rw [decide_eq_true (by omega:l.Reserve≤t.bid.Price)]; simp
def aw(a:AA)(s:SH):Option AW:=match lotN s.bid.Lot a.Lots with
 | some l=>bif decide (gets a.Bids l s=0) then none else some ⟨s.index,gets a.Bids l s,prc a.Rule a.Bids l s⟩
 | none=>none
def awS(a:AA):List AW:=(Z a.Bids).filterMap (aw a)
theorem aw_bid{a:AA}{s:SH}{x:AW}(h:aw a s=some x):x.Bid=s.index:=by
 unfold aw at h
 split at h
 ·rename_i l _;cases k:decide (gets a.Bids l s=0) with
  | true=>rw [k] at h; cases h
  | false=>rw [k] at h; obtain rfl:=Option.some.inj h; rfl
 ·cases h
theorem gets_rk{bs:List AB}{l:AL}{s:SH}(hn:s.bid.Lot=l.Name)(h:gets bs l s≠0):rk l s=true:=by
 unfold gets at h;unfold rk;cases k:decide (l.Reserve≤s.bid.Price) with
 | false=>rw [k] at h; exact absurd rfl h
 | true=>rw [hn,seq_refl]; rfl
theorem outA_mem{a:AA}(hv:Vl a){x:AW} : x∈outA a↔x∈awS a:=by
 unfold outA awS;rw [List.mem_flatMap,List.mem_filterMap]
 constructor
 ·rintro ⟨l,hl,hx⟩
  unfold awL at hx;obtain ⟨s,hs,rfl⟩:=List.mem_map.1 hx;unfold won at hs;obtain ⟨h1,h2⟩:=List.mem_filter.1 hs;obtain ⟨h3,h4⟩:=Qbj.1 h1;rw [rkG_eq h4] at h2 ⊢;have e:s.bid.Lot=l.Name:=by
   unfold rk at h4;rw [Bool.and_eq_true] at h4;exact seq_iff.1 h4.1
  refine ⟨s,h3,?_⟩;unfold aw;rw [e,lotN_of hv.srt l hl];have h5:decide (gets a.Bids l s=0)=false:=by simpa using h2
  simp only [h5,cond_false]
 ·rintro ⟨s,hs,hx⟩
  unfold aw at hx
  split at hx
  ·rename_i l hl;obtain ⟨k1,k2⟩:=lotN_mem hl;cases k:decide (gets a.Bids l s=0) with
   | true=>rw [k] at hx; cases hx
   | false =>
    rw [k] at hx;obtain rfl:=Option.some.inj hx;have hr:=gets_rk k2.symm (of_decide_eq_false k);refine ⟨l,k1,?_⟩;unfold awL won;refine List.mem_map.2 ⟨s,List.mem_filter.2 ⟨Qbj.2 ⟨hs,hr⟩,?_⟩,?_⟩
    ·rw [rkG_eq hr,k]; rfl
    ·rw [rkG_eq hr]
  ·cases hx
theorem awS_lt(a:AA):(awS a).Pairwise fun x y=>x.Bid<y.Bid:=by
 unfold awS;rw [List.pairwise_filterMap];refine (zs_idx a.Bids 0).1.imp fun {s t} h x hx y hy=>?_;rw [aw_bid hx,aw_bid hy]; exact h
theorem nodup_bid{l:List AW}(h:l.Pairwise fun x y=>x.Bid≠y.Bid):l.Nodup:=h.imp fun {x y} h e=>h (by rw [e])
theorem mem_awL{rule:Int}{bs:List AB}{l:AL}{x:AW}(h:x∈awL rule bs l):∃s∈Z bs,s.index=x.Bid∧s.bid.Lot=l.Name:=by
 unfold awL won at h;obtain ⟨s,hs,rfl⟩:=List.mem_map.1 h;obtain ⟨h3,h4⟩:=Qbj.1 (List.mem_filter.1 hs).1;unfold rk at h4;rw [Bool.and_eq_true] at h4;exact ⟨s,h3,rfl,seq_iff.1 h4.1⟩
theorem Z_inj{bs:List AB}{s t:SH}(hs:s∈Z bs)(ht:t∈Z bs)(h:s.index=t.index):s=t:=by
 obtain ⟨_,_,h3,h4⟩:=(zs_idx bs 0).2 s hs;obtain ⟨_,_,k3,k4⟩:=(zs_idx bs 0).2 t ht;rw [h] at h4;rw [h4] at k4;cases s; cases t
 simp_all
theorem outA_ne{a:AA}(hv:Vl a):(outA a).Pairwise fun x y=>x.Bid≠y.Bid:=by
 unfold outA;rw [List.pairwise_flatMap];refine ⟨fun l hl=>?_,hv.srt.imp fun {l m} hlm x hx y hy e=>?_⟩
 ·unfold awL won;rw [List.pairwise_map];refine List.Pairwise.filter _ ?_;have hb:=rkd_bef a.Bids l;refine (List.Pairwise.and_mem.1 hb).imp fun {s t} h e=>?_;have:=Z_inj (Qbj.1 h.1).1 (Qbj.1 h.2.1).1 e;rw [this] at h;rw [bef_irr] at h; exact absurd h.2.2 (by simp)
 ·obtain ⟨s,h1,h2,h3⟩:=mem_awL hx;obtain ⟨t,k1,k2,k3⟩:=mem_awL hy;have:=Z_inj h1 k1 (by rw [h2,k2,e]);rw [this,k3] at h3;exact sltNe hlm h3.symm
theorem out_perm{a:AA}(hv:Vl a):(outA a).Perm (awS a) :=
 (List.perm_ext_iff_of_nodup (nodup_bid (outA_ne hv)) (nodup_bid ((awS_lt a).imp fun h=>by omega))).2 fun x=>outA_mem hv
theorem sort_out{a:AA}(hv:Vl a):sortL cA (outA a)=awS a:=by
 have hp:(sortL cA (outA a)).Perm (awS a):=(sortL_perm cA_cmp.SWO _).trans (out_perm hv);have o:SWo fun x y:AW=>decide (cA x y<0):=cA_cmp.swo;have hn:(awS a).Pairwise fun x y=>eqv (fun x y:AW=>decide (cA x y<0)) x y=false:=(awS_lt a).imp fun {x y} h=>by
  rw [←Bool.not_eq_true,cA_cmp.eqv];unfold cA;rw [cmpI_zero]; omega
 have s1:Sd (fun x y:AW=>decide (cA x y<0)) (sortL cA (outA a)):=sortL_sorted cA_cmp.SWO _;have s2:Sd (fun x y:AW=>decide (cA x y<0)) (awS a):=(awS_lt a).imp fun {x y} h=>by
  rw [decide_eq_false_iff_not];unfold cA;rw [cmpI_neg]; omega
 exact (sorted_one o s2 s1 (Cl.of_perm hp hn o)).symm
theorem f12_eq(a:AA):f12 a=some (bif okA a then (awS a,0) else ([],8)):=by
 cases h:okA a with
 | true=>rw [f12_good h,sort_out (okA_vl h)]; rfl
 | false=>rw [f12_none h]; rfl
end Go.Proofs.Ythpceddjepbamaa
namespace Go.Proofs.Ythpceddjepbamaa
set_option linter.unusedVariables false
set_option linter.unusedSimpArgs false
set_option maxRecDepth 100000
open Go.RowKit
theorem at_Z{bs:List AB}{s:SH}(h:s∈Z bs):at? bs s.index=some s.bid:=by
 obtain ⟨h1,h2,_,h4⟩:=(zs_idx bs 0).2 s h;unfold at?;rw [if_pos h1];rw [show s.index-0=s.index by omega] at h4;exact h4
theorem Z_rng{bs:List AB}{s:SH}(h:s∈Z bs):0≤s.index∧s.index<bs.length:=by
 obtain ⟨h1,h2,_,_⟩:=(zs_idx bs 0).2 s h;omega
theorem Z_bid{bs:List AB}{s:SH}(h:s∈Z bs):s.bid∈bs:=zs_mem h

theorem gets_rng{bs:List AB}{l:AL}{s:SH}(h:1≤s.bid.Units):0≤gets bs l s∧gets bs l s≤s.bid.Units:=by
 unfold gets;cases decide (l.Reserve≤s.bid.Price) with
 | false=>rw [cond_false]; omega
 | true=>rw [cond_true]; omega
theorem low_mem(q:Int):∀W:List SH,low q W=q∨∃s∈W,low q W=s.bid.Price
 | []=>.inl rfl
 | x::r=>by
  have e:low q (x::r)=low x.bid.Price r:=rfl;rw [e];rcases low_mem x.bid.Price r with h | ⟨s,hs,h⟩
  ·exact .inr ⟨x,List.mem_cons_self,h⟩
  ·exact .inr ⟨s,List.mem_cons_of_mem _ hs,h⟩
theorem rej_mem(q:Int)(g:SH→Int)(T:List SH):(rej q g T=q∧∀s∈T,s.bid.Units≤g s)∨∃s∈T,g s<s.bid.Units∧rej q g T=s.bid.Price:=by
 unfold rej;cases h:T.find? (fun s=>decide (g s<s.bid.Units)) with
 | none =>
  refine .inl ⟨rfl,fun s hs=>?_⟩;have:=List.find?_eq_none.1 h s hs;simp at this; exact this
 | some s =>
  have h1:=List.mem_of_find?_eq_some h;have h2:=List.find?_some h;exact .inr ⟨s,h1,of_decide_eq_true h2,rfl⟩
structure AwOk (a:AA) (x:AW) (s:SH) (l:AL):Prop where
 z:s∈Z a.Bids
 l_:l∈a.Lots
 nm:s.bid.Lot=l.Name
 idx:x.Bid=s.index
 un:x.Units=gets a.Bids l s
 pr:x.Price=prc a.Rule a.Bids l s
 rk_:rk l s=true
 pos:1≤x.Units
 le:x.Units≤s.bid.Units
theorem awS_ok{a:AA}(hv:Vl a){x:AW}(h:x∈awS a):∃s l,AwOk a x s l:=by
 unfold awS at h;obtain ⟨s,hs,hx⟩:=List.mem_filterMap.1 h;unfold aw at hx
 split at hx
 ·rename_i l hl;obtain ⟨k1,k2⟩:=lotN_mem hl;cases k:decide (gets a.Bids l s=0) with
  | true=>rw [k] at hx; cases hx
  | false =>
   rw [k] at hx;obtain rfl:=Option.some.inj hx;have h0:=of_decide_eq_false k;have hr:=gets_rng (bs:=a.Bids) (l:=l) (s:=s) (hv.bids _ (Z_bid hs)).2.1;exact ⟨s,l,hs,k1,k2.symm,rfl,rfl,rfl,gets_rk k2.symm h0,by show 1≤gets a.Bids l s; omega,hr.2⟩
 ·cases hx
theorem prc_rng{a:AA}(hv:Vl a){l:AL}(hl:l∈a.Lots){s:SH}(hs:s∈Z a.Bids)(hr:rk l s=true):l.Reserve≤prc a.Rule a.Bids l s∧prc a.Rule a.Bids l s≤33554432:=by
 have h1:=hv.lots l hl;have h2:∀t∈rkd a.Bids l,l.Reserve≤t.bid.Price∧t.bid.Price≤33554432:=fun t ht=>by
  have:=Qbj.1 ht;have h3:=hv.bids _ (Z_bid this.1);exact ⟨(rk_iff.1 this.2).2,h3.2.2.2.2⟩
 have h3:=h2 s (Qbj.2 ⟨hs,hr⟩);unfold prc;cases decide (a.Rule=1) with
 | true =>
  rw [cond_true];unfold lowA;rcases low_mem l.Reserve (won a.Bids l) with e | ⟨t,ht,e⟩
  ·omega
  ·have:=h2 t (List.mem_filter.1 ht).1; omega
 | false =>
  cases decide (a.Rule=2) with
  | true =>
   rw [cond_false,cond_true];unfold rejA;rcases rej_mem l.Reserve (rkG a.Bids l) (rkd a.Bids l) with ⟨e,_⟩|⟨t,ht,_,e⟩
   ·omega
   ·have:=h2 t ht; omega
  | false=>exact h3
theorem mul_rng{u p U P:Int}(h0:0≤u)(h1:u≤U)(h2:0≤p)(h3:p≤P):0≤u*p∧u*p≤U*P :=
 ⟨Int.mul_nonneg h0 h2,Int.mul_le_mul h1 h3 h2 (by omega)⟩
theorem awS_rng{a:AA}(hv:Vl a){x:AW}(h:x∈awS a):1≤x.Units∧x.Units≤1048576∧0≤x.Price∧x.Price≤33554432∧0≤x.Units*x.Price∧x.Units*x.Price≤35184372088832:=by
 obtain ⟨s,l,k⟩:=awS_ok hv h;have h1:=hv.bids _ (Z_bid k.z);have h2:=prc_rng hv k.l_ k.z k.rk_;have h3:=hv.lots l k.l_;have:=k.pos; have:=k.le;rw [←k.pr] at h2;have:=mul_rng (u:=x.Units) (p:=x.Price) (U:=1048576) (P:=33554432) (by omega) (by omega) (by omega) (by omega);exact ⟨by omega,by omega,by omega,by omega,this.1,this.2⟩
theorem awS_len(a:AA):(awS a).length≤a.Bids.length:=by
 unfold awS;refine Nat.le_trans (List.length_filterMap_le _ _) ?_;unfold Z; rw [zs_len]; exact Nat.le_refl _

def sumW(q:AW→Bool):List AW→Int
 | []=>0
 | x::r=>(bif q x then x.Units*x.Price else 0)+sumW q r
def mbr(bs:List AB)(x:AW):ByteArray:=match at? bs x.Bid with | some b=>b.Member | none=>str_x
theorem awS_at{a:AA}(hv:Vl a){x:AW}(h:x∈awS a):∃b,at? a.Bids x.Bid=some b∧b∈a.Bids:=by
 obtain ⟨s,l,k⟩:=awS_ok hv h;exact ⟨s.bid,by rw [k.idx]; exact at_Z k.z,Z_bid k.z⟩
theorem f40m_l{a:AA}(bh:List AW×Int)(m:ByteArray):∀(l:List AW)(n v:Int),(∀x∈l,(∃b,at? a.Bids x.Bid=some b)∧0≤x.Units*x.Price∧x.Units*x.Price≤35184372088832)→0≤n→n+35184372088832*l.length≤9000000000000000000 →
  f40r1n2L bh m a l n v=some (.exit0 (n+sumW (fun x=>seq (mbr a.Bids x) m) l))
 | [],n,v,_,_,_=>by rw [f40r1n2L,sumW,Int.add_zero]
 | x::r,n,v,h,h0,hn=>by
  obtain ⟨⟨b,hb⟩,h1,h2⟩:=h x List.mem_cons_self;have h':∀y∈r,(∃b,at? a.Bids y.Bid=some b)∧0≤y.Units*y.Price∧y.Units*y.Price≤35184372088832:=fun y hy=>h y (List.mem_cons_of_mem _ hy);rw [List.length_cons] at hn;have e42:f42r1 b m=some ():=rfl;rw [f40r1n2L,hb,sumW,mbr,hb];simp only [Option.bind_some,e42];cases seq b.Member m with
  | true =>
   rw [cond_true,cond_true,show wr64 (x.Units*x.Price)=x.Units*x.Price from wrIn (by omega) (by omega),show wr64 (n+x.Units*x.Price)=n+x.Units*x.Price from wrIn (by omega) (by omega),f40m_l bh m r _ _ h' (by omega) (by omega),Int.add_assoc]
  | false=>rw [cond_false,cond_false,f40m_l bh m r _ _ h' h0 (by omega),Int.zero_add]
theorem aw_fit{a:AA}(hv:Vl a):(0:Int)+35184372088832*((awS a).length:Int)≤9000000000000000000:=by
 have:=awS_len a;have:=hv.nb;omega
theorem aw_all{a:AA}(hv:Vl a):∀x∈awS a,(∃b,at? a.Bids x.Bid=some b)∧0≤x.Units*x.Price∧x.Units*x.Price≤35184372088832:=fun x hx=>by
 obtain ⟨b,h,_⟩:=awS_at hv hx;have:=awS_rng hv hx;exact ⟨⟨b,h⟩,this.2.2.2.2.1,this.2.2.2.2.2⟩
def paidS(a:AA)(m:ByteArray):Int:=sumW (fun x=>seq (mbr a.Bids x) m) (awS a)
theorem f16_eq(a:AA)(m:ByteArray):f16 a m=some (bif okA a then (paidS a m,0) else (0,8)):=by
 unfold f16 f16n0 f40r1 f40r1n0 f40r1n1;rw [f12_eq];cases h:okA a with
 | true =>
  have hv:=okA_vl h;simp only [cond_true,Option.bind_some];rw [f40r1n2_run (awS a,0) m a 0 (maxSmall (by show (awS a).length≤_; have:=awS_len a; have:=hv.nb; omega))];rw [show f40r1n2L (awS a,0) m a (awS a,(0:Int)).1 0 0=_ from f40m_l (awS a,0) m (awS a) 0 0 (aw_all hv) (Int.le_refl _) (aw_fit hv),Int.zero_add]; rfl
 | false =>
  simp only [cond_false,Option.bind_some];rw [f40r1n2_run ([],8) m a 0 (maxSmall (by simp))]; rfl


theorem f34_eq(a:AA)(m:ByteArray):f34 a m=some (bif okA a then paidS a m else -1):=by
 unfold f34 f34n0;rw [f16_eq];cases okA a<;>rfl
theorem alive_t:f10=some true:=by
 unfold f10 f10n0 f10n1 f10n2 f10n3;simp only [f34_eq]
 kernel_rfl
def grt(a:AA):Bool:=!(decide (a.Lots.length≤20))||!(decide (a.Bids.length≤110))
theorem f11_eq(a:AA):f11 a=some (grt a):=by
 unfold f11 f11n0 grt;rw [show decide ((20:Int)<(a.Lots.length:Int))=_ from lenD a.Lots.length 20,show decide ((110:Int)<(a.Bids.length:Int))=_ from lenD a.Bids.length 110];cases decide (a.Lots.length≤20)<;>rfl
end Go.Proofs.Ythpceddjepbamaa
namespace Go.Proofs.Ythpceddjepbamaa
set_option linter.unusedVariables false
set_option linter.unusedSimpArgs false
open Go.RowKit
def wlo(ls:List AL)(bs:List AB)(s:SH):Option (SH×AL):=match lotN s.bid.Lot ls with
 | some l=>bif decide (gets bs l s=0) then none else some (s,l)
 | none=>none
def wl(ls:List AL)(bs:List AB):List (SH×AL):=(Z bs).filterMap (wlo ls bs)
def mkA(rule:Int)(bs:List AB)(q:SH×AL):AW:=⟨q.1.index,gets bs q.2 q.1,prc rule bs q.2 q.1⟩
theorem awS_wl(a:AA):awS a=(wl a.Lots a.Bids).map (mkA a.Rule a.Bids):=by
 unfold awS wl;rw [List.map_filterMap];refine congrArg (fun f=>List.filterMap f (Z a.Bids)) (funext fun s=>?_);unfold aw wlo;cases lotN s.bid.Lot a.Lots with
 | none=>rfl
 | some l =>
  show (bif decide (gets a.Bids l s=0) then none else _)=Option.map _ (bif decide (gets a.Bids l s=0) then none else _);cases decide (gets a.Bids l s=0)<;>rfl
theorem wl_mem{ls:List AL}{bs:List AB}{q:SH×AL}(h:q∈wl ls bs):q.1∈Z bs∧q.2∈ls∧q.1.bid.Lot=q.2.Name∧gets bs q.2 q.1≠0∧rk q.2 q.1=true:=by
 unfold wl at h;obtain ⟨s,hs,hx⟩:=List.mem_filterMap.1 h;unfold wlo at hx
 split at hx
 ·rename_i l hl;obtain ⟨k1,k2⟩:=lotN_mem hl;cases k:decide (gets bs l s=0) with
  | true=>rw [k] at hx; cases hx
  | false =>
   rw [k] at hx;obtain rfl:=Option.some.inj hx;have h0:=of_decide_eq_false k;exact ⟨hs,k1,k2.symm,h0,gets_rk k2.symm h0⟩
 ·cases hx
theorem won_mem{bs:List AB}{l:AL}{s:SH} : s∈won bs l↔s∈Z bs∧rk l s=true∧gets bs l s≠0:=by
 unfold won;rw [List.mem_filter,Qbj]
 constructor
 ·rintro ⟨⟨h1,h2⟩,h3⟩
  rw [rkG_eq h2] at h3;exact ⟨h1,h2,by simpa using h3⟩
 ·rintro ⟨h1,h2,h3⟩
  exact ⟨⟨h1,h2⟩,by rw [rkG_eq h2]; simpa using h3⟩

theorem low_le:∀{W:List SH} {q:Int} {s:SH},Bef W→s∈W→low q W≤s.bid.Price
 | x::r,q,s,h,hs=>by
  have e:low q (x::r)=low x.bid.Price r:=rfl;have h':=List.pairwise_cons.1 h;rw [e];rcases List.mem_cons.1 hs with rfl | hs
  ·rcases low_mem s.bid.Price r with k | ⟨t,ht,k⟩
   ·omega
   ·have:=bef_iff.1 (h'.1 t ht); omega
  ·exact low_le h'.2 hs
theorem won_bef(bs:List AB)(l:AL):Bef (won bs l):=List.Pairwise.filter _ (rkd_bef bs l)
theorem lowA_le{bs:List AB}{l:AL}{t:SH}(ht:t∈won bs l):lowA bs l≤t.bid.Price:=low_le (won_bef bs l) ht
theorem lowA_mem{bs:List AB}{l:AL}{t:SH}(ht:t∈won bs l):∃s∈won bs l,lowA bs l=s.bid.Price:=by
 unfold lowA;cases h:won bs l with
 | nil=>rw [h] at ht; cases ht
 | cons x r =>
  have e:low l.Reserve (x::r)=low x.bid.Price r:=rfl;rw [e];rcases low_mem x.bid.Price r with k | ⟨s,hs,k⟩
  ·exact ⟨x,List.mem_cons_self,k⟩
  ·exact ⟨s,List.mem_cons_of_mem _ hs,k⟩

theorem lookE{α β:Type}{f:α→β}{l:List α}{k:Nat}{x:α}(h:at? l (k:Int)=some x):at? (l.map f) (k:Int)=some (f x):=by
 rw [at_nat] at h ⊢;rw [List.getElem?_map,h]; rfl

theorem wl_len(ls:List AL)(bs:List AB):(wl ls bs).length≤bs.length:=by
 unfold wl;refine Nat.le_trans (List.length_filterMap_le _ _) ?_;unfold Z; rw [zs_len]; exact Nat.le_refl _
end Go.Proofs.Ythpceddjepbamaa
namespace Go.Proofs.Ythpceddjepbamaa
set_option linter.unusedVariables false
set_option linter.unusedSimpArgs false
open Go.RowKit
theorem zs_get:∀(l:List AB)(i:Int)(k:Nat),(zs l i)[k]?=(l[k]?).map fun b=>⟨i+k,0,b⟩
 | [],_,_=>by simp [zs]
 | b::r,i,0=>by simp [zs]
 | b::r,i,k+1=>by
  rw [zs,List.getElem?_cons_succ,List.getElem?_cons_succ,zs_get r]
  congr 1
  funext c
  rw [show i+1+(k:Int)=i+((k+1:Nat):Int) by omega]

end Go.Proofs.Ythpceddjepbamaa
namespace Go.Proofs.Ythpceddjepbamaa
set_option linter.unusedVariables false
set_option linter.unusedSimpArgs false
open Go.RowKit
theorem rej_ge{q:Int}{g:SH→Int} : ∀{T:List SH},Bef T→∀r∈T,g r<r.bid.Units→r.bid.Price≤rej q g T
 | x::T,h,r,hr,hg=>by
  have h':=List.pairwise_cons.1 h;unfold rej;rw [List.find?_cons]
  by_cases hx:g x<x.bid.Units
  ·rw [decide_eq_true hx];show r.bid.Price≤x.bid.Price;rcases List.mem_cons.1 hr with rfl | hr
   ·exact Int.le_refl _
   ·have:=bef_iff.1 (h'.1 r hr); omega
  ·rw [decide_eq_false hx];rcases List.mem_cons.1 hr with rfl | hr
   ·exact absurd hg hx
   ·exact rej_ge h'.2 r hr hg
theorem rejA_ge{bs:List AB}{l:AL}{r:SH}(hr:r∈Z bs)(h1:rk l r=true)(hg:gets bs l r<r.bid.Units):r.bid.Price≤rejA bs l :=
 rej_ge (rkd_bef bs l) r (Qbj.2 ⟨hr,h1⟩) (by rw [rkG_eq h1]; exact hg)
theorem rejA_res(bs:List AB)(l:AL):l.Reserve≤rejA bs l:=by
 unfold rejA;rcases rej_mem l.Reserve (rkG bs l) (rkd bs l) with ⟨e,_⟩|⟨r,hr,_,e⟩
 ·omega
 ·have:=(rk_iff.1 (Qbj.1 hr).2).2; omega
theorem low_char{bs:List AB}{l:AL}{v:Int}{t:SH}(ht:t∈won bs l)(h1:∃s∈won bs l,v=s.bid.Price)(h2:∀s∈won bs l,v≤s.bid.Price):lowA bs l=v:=by
 obtain ⟨s,hs,e⟩:=lowA_mem ht;obtain ⟨u,hu,e2⟩:=h1;have:=h2 s hs;have:=lowA_le hu;omega
structure Sim (b1 b2:List AB) (l:AL) (f:SH→SH):Prop where
 z:∀t∈Z b1,rk l t=true→f t∈Z b2
 bid:∀t,(f t).bid=t.bid
 g:∀t∈Z b1,rk l t=true→gets b2 l (f t)=gets b1 l t
section
variable {b1 b2:List AB} {l:AL} {f:SH→SH}
theorem Sim.rk(S:Sim b1 b2 l f)(t:SH):rk l (f t)=rk l t:=by unfold Ythpceddjepbamaa.rk; rw [S.bid]
theorem Sim.won(S:Sim b1 b2 l f){t:SH}(h:t∈won b1 l):f t∈won b2 l:=by
 obtain ⟨h1,h2,h3⟩:=won_mem.1 h;exact won_mem.2 ⟨S.z t h1 h2,by rw [S.rk]; exact h2,by rw [S.g t h1 h2]; exact h3⟩
theorem low_sim(S:Sim b1 b2 l f)(on:∀s∈won b2 l,∃t∈Z b1,rk l t=true∧f t=s){t:SH}(ht:t∈won b1 l):lowA b1 l=lowA b2 l:=by
 refine low_char ht ?_ fun s hs=>?_
 ·obtain ⟨s,hs,e⟩:=lowA_mem (S.won ht);obtain ⟨u,k1,k2,rfl⟩:=on s hs;obtain ⟨_,_,h3⟩:=won_mem.1 hs;rw [S.g u k1 k2] at h3;exact ⟨u,won_mem.2 ⟨k1,k2,h3⟩,by rw [e,S.bid]⟩
 ·have:=lowA_le (S.won hs)
  rwa [S.bid] at this
theorem rej_sim(S:Sim b1 b2 l f):rejA b1 l≤rejA b2 l:=by
 have h:rejA b1 l=rej l.Reserve (rkG b1 l) (rkd b1 l):=rfl;rcases rej_mem l.Reserve (rkG b1 l) (rkd b1 l) with ⟨e,_⟩|⟨t,ht,hg,e⟩
 ·rw [h,e]; exact rejA_res b2 l
 ·obtain ⟨k1,k2⟩:=Qbj.1 ht;rw [rkG_eq k2] at hg;have:=rejA_ge (bs:=b2) (r:=f t) (S.z t k1 k2) (by rw [S.rk]; exact k2) (by rw [S.g t k1 k2,S.bid]; exact hg);rw [S.bid] at this;rw [h,e]; exact this
theorem rej_onto(S:Sim b1 b2 l f)(on:∀s∈Z b2,Ythpceddjepbamaa.rk l s=true→∃t∈Z b1,Ythpceddjepbamaa.rk l t=true∧f t=s):rejA b2 l≤rejA b1 l:=by
 have h:rejA b2 l=rej l.Reserve (rkG b2 l) (rkd b2 l):=rfl;rcases rej_mem l.Reserve (rkG b2 l) (rkd b2 l) with ⟨e,_⟩|⟨s,hs,hg,e⟩
 ·rw [h,e]; exact rejA_res b1 l
 ·obtain ⟨k1,k2⟩:=Qbj.1 hs;rw [rkG_eq k2] at hg;obtain ⟨t,q1,q2,rfl⟩:=on s k1 k2;rw [S.g t q1 q2,S.bid] at hg;have:=rejA_ge (bs:=b1) q1 q2 hg;rw [h,e,S.bid]; exact this
end
theorem sumU_map{f:SH→SH}(hf:∀t,(f t).bid=t.bid):∀l:List SH,sumU (l.map f)=sumU l
 | []=>rfl
 | x::r=>by rw [List.map_cons,sumU,sumU,hf,sumU_map hf r]

def up(k:Int)(t:SH):SH:=⟨if k≤t.index then t.index+1 else t.index,t.units,t.bid⟩


end Go.Proofs.Ythpceddjepbamaa
namespace Go.Proofs.Ythpceddjepbamaa
set_option linter.unusedVariables false
set_option linter.unusedSimpArgs false
open Go.RowKit
section
variable (bs:List AB) (l:AL)
def fl:List SH:=(Z bs).filter fun s=>seq s.bid.Lot l.Name
def ix:List Int:=(fl bs l).map fun s=>s.index
def bl:List AB:=(fl bs l).map fun s=>s.bid
def psi(t:SH):SH:=⟨((ix bs l)[t.index.toNat]?).getD 0,0,t.bid⟩
end
section
variable {bs:List AB} {l:AL}
theorem fl_mem{s:SH} : s∈fl bs l↔s∈Z bs∧s.bid.Lot=l.Name:=by
 unfold fl; rw [List.mem_filter,seq_iff]
theorem psi_map:(Z (bl bs l)).map (psi bs l)=fl bs l:=by
 apply List.ext_getElem?
 intro j;rw [List.getElem?_map];unfold Z;rw [zs_get];unfold bl;rw [List.getElem?_map];cases h:(fl bs l)[j]? with
 | none=>rfl
 | some s =>
  have hs:=fl_mem.1 (List.mem_of_getElem? h);have hu:=((zs_idx bs 0).2 s hs.1).2.2.1;simp only [Option.map_some,Int.zero_add];unfold psi ix;simp only [Int.toNat_natCast,List.getElem?_map,h,Option.map_some,Option.getD_some];cases s
  simp_all
theorem fl_idx:Idx (fl bs l):=List.Pairwise.filter _ (zs_idx bs 0).1
theorem psi_lt{t u:SH}(ht:t∈Z (bl bs l))(hu:u∈Z (bl bs l)):(psi bs l t).index<(psi bs l u).index↔t.index<u.index:=by
 have h1:(Z (bl bs l)).Pairwise fun t u=>(psi bs l t).index<(psi bs l u).index:=by
  have:=fl_idx (bs:=bs) (l:=l);rw [←psi_map,Idx,List.pairwise_map] at this;exact this
 have h2:=(zs_idx (bl bs l) 0).1;obtain ⟨i,hi,rfl⟩:=List.getElem_of_mem ht;obtain ⟨j,hj,rfl⟩:=List.getElem_of_mem hu;have a1:=List.pairwise_iff_getElem.1 h1;have a2:=List.pairwise_iff_getElem.1 h2;rcases Nat.lt_trichotomy i j with h | h | h
 ·have:=a1 i j hi hj h; have:=a2 i j hi hj h; unfold Z at *; omega
 ·subst h; omega
 ·have:=a1 j i hj hi h; have:=a2 j i hj hi h; unfold Z at *; omega
theorem psi_bef{t u:SH}(ht:t∈Z (bl bs l))(hu:u∈Z (bl bs l)):bef (psi bs l t) (psi bs l u)=bef t u:=by
 unfold bef;rw [show decide ((psi bs l t).index<(psi bs l u).index)=decide (t.index<u.index) by
  by_cases h:t.index<u.index
  ·rw [decide_eq_true h,decide_eq_true ((psi_lt ht hu).2 h)]
  ·rw [decide_eq_false h,decide_eq_false fun k=>h ((psi_lt ht hu).1 k)]]
 rfl
theorem bl_lot{b:AB}(h:b∈bl bs l):b.Lot=l.Name:=by
 unfold bl at h;obtain ⟨s,hs,rfl⟩:=List.mem_map.1 h;exact (fl_mem.1 hs).2
theorem psi_mem{t:SH}(ht:t∈Z (bl bs l)):psi bs l t∈fl bs l:=by
 rw [←psi_map]; exact List.mem_map_of_mem ht
theorem psi_onto{s:SH}(hs:s∈Z bs)(hl:s.bid.Lot=l.Name):∃t∈Z (bl bs l),psi bs l t=s:=by
 have:=fl_mem.2 ⟨hs,hl⟩;rw [←psi_map] at this;obtain ⟨t,h1,h2⟩:=List.mem_map.1 this;exact ⟨t,h1,h2⟩
theorem bfr_psi{t:SH}(ht:t∈Z (bl bs l)):bfr bs (psi bs l t)=bfr (bl bs l) t:=by
 have hl:t.bid.Lot=l.Name:=bl_lot (Z_bid ht);have h1:bfr bs (psi bs l t)=sumU ((fl bs l).filter fun u=>bef u (psi bs l t)):=by
  unfold bfr fl;rw [List.filter_filter]
  congr 1
  refine congrArg (fun p=>(Z bs).filter p) (funext fun u=>?_);show (seq u.bid.Lot t.bid.Lot&&_)=_;rw [hl,Bool.and_comm]
 rw [h1,←psi_map,List.filter_map,sumU_map (f:=psi bs l) fun _=>rfl];unfold bfr
 congr 1
 apply List.filter_congr
 intro u hu;show bef (psi bs l u) (psi bs l t)=_;rw [psi_bef hu ht,hl,bl_lot (Z_bid hu),seq_refl]; rfl
theorem gets_psi{t:SH}(ht:t∈Z (bl bs l)):gets bs l (psi bs l t)=gets (bl bs l) l t:=by
 unfold gets;rw [bfr_psi ht]; rfl
theorem psi_sim:Sim (bl bs l) bs l (psi bs l) where
 z t ht _:=(fl_mem.1 (psi_mem ht)).1
 bid _:=rfl
 g t ht _:=gets_psi ht
theorem prc_psi(rule:Int){t:SH}(ht:t∈won (bl bs l) l):prc rule bs l (psi bs l t)=prc rule (bl bs l) l t:=by
 have S:=psi_sim (bs:=bs) (l:=l);have h1:=low_sim S (fun s hs=>by
  obtain ⟨m1,m2,m3⟩:=won_mem.1 hs;obtain ⟨u,n1,n2⟩:=psi_onto m1 (rk_iff.1 m2).1;exact ⟨u,n1,by rw [←S.rk,n2]; exact m2,n2⟩) ht
 have h2:rejA (bl bs l) l=rejA bs l:=Int.le_antisymm (rej_sim S) (rej_onto S fun s hs hr=>by
  obtain ⟨u,n1,n2⟩:=psi_onto hs (rk_iff.1 hr).1;exact ⟨u,n1,by rw [←S.rk,n2]; exact hr,n2⟩)
 unfold prc;rw [h1,h2]; rfl
theorem fm_filter{g:SH→Option (SH×AL)}{p:SH×AL→Bool}{q:SH→Bool}(h:∀s x,g s=some x→p x=q s):∀L:List SH,(L.filterMap g).filter p=(L.filter q).filterMap g
 | []=>rfl
 | s::r=>by
  have ih:=fm_filter h r;rw [List.filterMap_cons,List.filter_cons];cases hg:g s with
  | none =>
   cases q s with
   | true=>simp only [if_true,List.filterMap_cons,hg]; exact ih
   | false=>exact ih
  | some x =>
   simp only [List.filter_cons,h s x hg];cases q s with
   | true=>simp only [if_true,List.filterMap_cons,hg,ih]
   | false=>exact ih
theorem wlo_fst{ls:List AL}{s:SH}{x:SH×AL}(h:wlo ls bs s=some x):x.1=s:=by
 unfold wlo at h
 split at h
 ·rename_i m _;cases k:decide (gets bs m s=0) with
  | true=>rw [k] at h; cases h
  | false=>rw [k] at h; obtain rfl:=Option.some.inj h; rfl
 ·cases h
theorem wl_lot{ls:List AL}(hs:SSrt ls)(hl:l∈ls):(wl ls bs).filter (fun q=>seq q.1.bid.Lot l.Name)=(wl [l] (bl bs l)).map fun q=>(psi bs l q.1,q.2):=by
 unfold wl;rw [fm_filter (q:=fun s=>seq s.bid.Lot l.Name) fun s x h=>by rw [wlo_fst h]];show (fl bs l).filterMap _=_;rw [←psi_map];have h:∀L:List SH,(∀t∈L,t∈Z (bl bs l))→(L.map (psi bs l)).filterMap (wlo ls bs)=(L.filterMap (wlo [l] (bl bs l))).map fun q=>(psi bs l q.1,q.2):=fun L hL=>by
  induction L with
  | nil=>rfl
  | cons t r ih =>
   have ht:=hL t List.mem_cons_self;have hn:t.bid.Lot=l.Name:=bl_lot (Z_bid ht);have e:wlo ls bs (psi bs l t)=(wlo [l] (bl bs l) t).map fun q=>(psi bs l q.1,q.2):=by
    unfold wlo;rw [show (psi bs l t).bid.Lot=l.Name from hn,lotN_of hs l hl,hn];rw [show lotN l.Name [l]=some l by rw [lotN,seq_refl,cond_true]];show (bif decide (gets bs l (psi bs l t)=0) then none else some (psi bs l t,l))=Option.map _ (bif decide (gets (bl bs l) l t=0) then none else some (t,l));rw [gets_psi ht];cases decide (gets (bl bs l) l t=0)<;>rfl
   have ih:=ih fun u hu=>hL u (List.mem_cons_of_mem _ hu);rw [List.map_cons,List.filterMap_cons,List.filterMap_cons,e];cases wlo [l] (bl bs l) t with
   | none=>exact ih
   | some q=>simp only [Option.map_some,List.map_cons]; rw [ih]
 exact h _ fun _ h=>h
end
theorem f4n2L_eq_{a:AA}{n:Int}{l:AL}(hl:at? a.Lots n=some l)(h3:List AW×Int)(x5:AL):∀(r:List AB)(i:Int)(I:List Int)(B:List AB),I.length+r.length≤1000→B.length+r.length≤1000 →
  f4n2L n true h3 a x5 r i I B=some (.exit0 (I++((zs r i).filter fun s=>seq s.bid.Lot l.Name).map fun s=>s.index) (B++((zs r i).filter fun s=>seq s.bid.Lot l.Name).map fun s=>s.bid))
 | [],i,I,B,_,_=>by rw [f4n2L,zs]; simp
 | b::r,i,I,B,h1,h2=>by
  rw [List.length_cons] at h1 h2;rw [f4n2L,hl,zs,List.filter_cons];simp only [Option.bind_some];cases seq b.Lot l.Name with
  | true =>
   rw [cond_true,req,fitSmall (by omega) (by omega),cond_true,req,fitSmall (by omega) (by omega),cond_true,f4n2L_eq_ hl h3 x5 r (i+1) _ _ (by rw [List.length_append]; simp; omega) (by rw [List.length_append]; simp; omega)]
   simp
  | false =>
   rw [cond_false,f4n2L_eq_ hl h3 x5 r (i+1) I B (by omega) (by omega)];rfl
theorem ix_at{bs:List AB}{l:AL}{t:SH}(ht:t∈Z (bl bs l)):at? (ix bs l) t.index=some (psi bs l t).index∧0≤t.index∧t.index<((ix bs l).length:Int):=by
 have h:=Z_rng ht;have hlen:(bl bs l).length=(ix bs l).length:=by unfold bl ix; rw [List.length_map,List.length_map]
 have hlt:t.index.toNat<(ix bs l).length:=by omega
 refine ⟨?_,h.1,by omega⟩;unfold at? psi;rw [if_pos h.1,List.getElem?_eq_getElem hlt]; rfl
theorem f4n7_at{a:AA}(hv:Vl a){n:Int}{l:AL}(hn:at? a.Lots n=some l)(hl:l∈a.Lots)(e1 e2:Int):∀(r:List (SH×AL))(f i m:Nat),(wl a.Lots a.Bids).drop i=r→r.length<f→m≤(wl [l] (bl a.Bids l)).length →
  r.filter (fun q=>seq q.1.bid.Lot l.Name)=((wl [l] (bl a.Bids l)).drop m).map (fun q=>(psi a.Bids l q.1,q.2)) →
  f4n7 f n true (awS a,e1) (awS ⟨a.Rule,[l],bl a.Bids l⟩,e2) a (ix a.Bids l) (m:Int) (i:Int)=some (.exit2 ((wl [l] (bl a.Bids l)).length:Int))
 | _,0,_,_,_,h,_,_=>absurd h (Nat.not_lt_zero _)
 | [],f+1,i,m,hd,_,hm,he=>by
  have:=Qbb hd;have hlen:(awS a).length=(wl a.Lots a.Bids).length:=by rw [awS_wl,List.length_map]
  rw [f4n7,decide_eq_false (by show ¬(i:Int)<((awS a).length:Int); omega),cond_false];have h0:((wl [l] (bl a.Bids l)).drop m).length=0:=by
   have:=congrArg List.length he;rw [List.filter_nil,List.length_map] at this;exact this.symm
  rw [List.length_drop] at h0;rw [show m=(wl [l] (bl a.Bids l)).length by omega]
 | q::r,f+1,i,m,hd,hf,hm,he=>by
  have hk:=dropAt hd;have hlen:(awS a).length=(wl a.Lots a.Bids).length:=by rw [awS_wl,List.length_map]
  have hwl:=wl_len a.Lots a.Bids;have hnb:=hv.nb;have hq:q∈wl a.Lots a.Bids:=List.mem_of_mem_drop (hd ▸ List.mem_cons_self);obtain ⟨k1,k2,k3,k4,k5⟩:=wl_mem hq;have hz:=Z_rng k1;have hx:at? (awS a) (i:Int)=some (mkA a.Rule a.Bids q):=by rw [awS_wl]; exact lookE hk.1
  rw [f4n7,decide_eq_true (by show (i:Int)<((awS a).length:Int); have:=hk.2.1; omega),cond_true];unfold f4n4;rw [show at? (awS a,e1).1 (i:Int)=_ from hx];simp only [Option.bind_some];show Option.bind (bif decide (q.1.index<0) then _ else bif decide ((a.Bids.length:Int)≤q.1.index) then _ else _) _=_;rw [decide_eq_false (by omega),cond_false,decide_eq_false (by omega),cond_false];rw [show at? a.Bids (mkA a.Rule a.Bids q).Bid=some q.1.bid from at_Z k1,hn];simp only [Option.bind_some];rw [List.filter_cons] at he;cases hs:seq q.1.bid.Lot l.Name with
  | false =>
   rw [hs] at he;simp only [cond_false,Option.bind_some];rw [wrSucc (by have:=hk.2.1; omega)];exact f4n7_at hv hn hl e1 e2 r f (i+1) m hk.2.2 (by simpa using hf) hm (by simpa using he)
  | true =>
   rw [hs] at he;simp only [if_true] at he;cases hK:(wl [l] (bl a.Bids l)).drop m with
   | nil=>rw [hK] at he; cases he
   | cons k rest =>
    rw [hK,List.map_cons] at he;obtain ⟨he1,he2⟩:=List.cons.inj he;have hkm:=dropAt hK;have hkmem:k∈wl [l] (bl a.Bids l):=List.mem_of_mem_drop (hK ▸ List.mem_cons_self);obtain ⟨g1,g2,g3,g4,g5⟩:=wl_mem hkmem;have hkl:k.2=l:=by simpa using g2
    have hlenK:(awS ⟨a.Rule,[l],bl a.Bids l⟩).length=(wl [l] (bl a.Bids l)).length:=by rw [awS_wl,List.length_map]
    have hy:at? (awS ⟨a.Rule,[l],bl a.Bids l⟩) (m:Int)=some (mkA a.Rule (bl a.Bids l) k):=by rw [awS_wl]; exact lookE hkm.1
    have hi:=ix_at g1;have hml:m<1000:=by
     have h1:=wl_len [l] (bl a.Bids l);have h2:(bl a.Bids l).length≤a.Bids.length:=by
      unfold bl fl;rw [List.length_map];refine Nat.le_trans (List.length_filter_le _ _) ?_;unfold Z; rw [zs_len]; exact Nat.le_refl _
     have:=hkm.2.1;omega
    have hwon:k.1∈won (bl a.Bids l) l:=won_mem.2 ⟨g1,hkl ▸ g5,hkl ▸ g4⟩;have h6:f4n6 n true (awS a,e1) (awS ⟨a.Rule,[l],bl a.Bids l⟩,e2) (m:Int) (i:Int) a (ix a.Bids l)=some (.norm false):=by
     unfold f4n6;rw [show (((awS ⟨a.Rule,[l],bl a.Bids l⟩,e2).1.length:Nat):Int)=((wl [l] (bl a.Bids l)).length:Int) by rw [←hlenK],decide_eq_false (by have:=hkm.2.1; omega),cond_false,show at? (awS ⟨a.Rule,[l],bl a.Bids l⟩,e2).1 (m:Int)=_ from hy];simp only [Option.bind_some];show (bif decide (k.1.index<0) then _ else bif decide (((ix a.Bids l).length:Int)≤k.1.index) then _ else _)=_;rw [decide_eq_false (by omega),cond_false,decide_eq_false (by omega),cond_false,show at? (ix a.Bids l) (mkA a.Rule (bl a.Bids l) k).Bid=_ from hi.1,show at? (awS a,e1).1 (i:Int)=_ from hx];simp only [Option.bind_some,mkA];have z1:gets (bl a.Bids l) k.2 k.1=gets a.Bids k.2 (psi a.Bids l k.1):=by rw [hkl]; exact (gets_psi g1).symm
     have z2:prc a.Rule (bl a.Bids l) k.2 k.1=prc a.Rule a.Bids k.2 (psi a.Bids l k.1):=by rw [hkl]; exact (prc_psi a.Rule hwon).symm
     rw [he1];simp only [z1,z2,decide_true,cond_true,Bool.not_true]
    unfold f4n5;rw [h6];simp only [cond_true,cond_false,Option.bind_some];rw [wrSucc (by omega),wrSucc (by have:=hk.2.1; omega)];exact f4n7_at hv hn hl e1 e2 r f (i+1) (m+1) hk.2.2 (by simpa using hf) hkm.2.1 (by rw [he2,hkm.2.2])
theorem okA_alone{a:AA}(ho:okA a=true){l:AL}(hl:l∈a.Lots):okA ⟨a.Rule,[l],bl a.Bids l⟩=true:=by
 unfold okA at ho ⊢;simp only [Bool.and_eq_true,decide_eq_true_eq] at ho ⊢;obtain ⟨h1,h2,h3,h4,h5⟩:=ho;have hin:=(okL_none h4).2 l hl;refine ⟨h1,by simp,?_,?_,?_⟩
 ·have:(bl a.Bids l).length≤a.Bids.length:=by
   unfold bl fl;rw [List.length_map];refine Nat.le_trans (List.length_filter_le _ _) ?_;unfold Z; rw [zs_len]; exact Nat.le_refl _
  omega
 ·unfold okL okL ordL; rw [hin]; rfl
 ·refine List.all_eq_true.2 fun b hb=>?_;have hbl:=bl_lot hb;unfold bl at hb;obtain ⟨s,hs,rfl⟩:=List.mem_map.1 hb;have h6:=List.all_eq_true.1 h5 s.bid (Z_bid (fl_mem.1 hs).1);unfold bidB at h6 ⊢;rw [Bool.and_eq_true] at h6 ⊢;refine ⟨?_,h6.2⟩;rw [hbl,lotN,seq_refl]; rfl
theorem lawLots{P' Q':Prop}(a:AA)(n:Int)(_:P')(_:Q'):f4 a n=some true:=by
 unfold f4 f4n0;rw [alive_t,f11_eq];cases hg:grt a with
 | true=>rfl
 | false =>
  simp only [Option.bind_some,cond_false]
  by_cases h1:n<0
  ·rw [decide_eq_true h1]; rfl
  ·rw [decide_eq_false h1,cond_false]
   by_cases h2:(a.Lots.length:Int)≤n
   ·rw [decide_eq_true h2]; rfl
   ·rw [decide_eq_false h2,cond_false,cond_true,f12_eq];cases ho:okA a with
    | false=>rfl
    | true =>
     have hv:=okA_vl ho;have hnb:=hv.nb;obtain ⟨k,rfl⟩:∃k:Nat,n=(k:Int):=⟨n.toNat,by omega⟩;have hlt:k<a.Lots.length:=by omega
     have hn:at? a.Lots (k:Int)=some a.Lots[k]:=at_in hlt;have hl:a.Lots[k]∈a.Lots:=List.getElem_mem hlt;generalize a.Lots[k]=l at hn hl;simp only [Option.bind_some,cond_true,decide_true];rw [hn];simp only [Option.bind_some];have h4:f4n1 (k:Int) true (awS a,0) a l=some (.norm (ix a.Bids l) (bl a.Bids l)):=by
      unfold f4n1;rw [f4n2_run (k:Int) true (awS a,0) a l [] [] (maxSmall (by omega)),f4n2L_eq_ hn (awS a,0) l a.Bids 0 [] [] (by simp; omega) (by simp; omega)];rfl
     rw [h4];simp only [Option.bind_some];rw [f12_eq,okA_alone ho hl];simp only [Option.bind_some,cond_true,decide_true];have hwl:=wl_len a.Lots a.Bids;have h3:f4n3 (k:Int) true (awS a,0) (awS ⟨a.Rule,[l],bl a.Bids l⟩,0) a (ix a.Bids l)=some (.norm ((wl [l] (bl a.Bids l)).length:Int)):=by
      unfold f4n3;have:=f4n7_at hv hn hl 0 0 (wl a.Lots a.Bids) FUEL 0 0 rfl (Qby (by omega)) (Nat.zero_le _) (wl_lot hv.srt hl);rw [show ((0:Nat):Int)=0 from rfl] at this;rw [this]; rfl
     have hlenK:(awS ⟨a.Rule,[l],bl a.Bids l⟩).length=(wl [l] (bl a.Bids l)).length:=by rw [awS_wl,List.length_map]
     rw [h3];simp only [Option.bind_some];rw [show (((awS ⟨a.Rule,[l],bl a.Bids l⟩,(0:Int)).1.length:Nat):Int)=((wl [l] (bl a.Bids l)).length:Int) by rw [←hlenK],decide_eq_true rfl]
end Go.Proofs.Ythpceddjepbamaa
