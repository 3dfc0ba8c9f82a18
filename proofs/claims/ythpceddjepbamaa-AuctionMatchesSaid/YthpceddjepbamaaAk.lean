/- Several texts in one. No condition. -/
import Derived.Test.YthpceddjepbamaaAb
namespace Go.Proofs.Ythpceddjepbamaa
set_option linter.unusedVariables false
set_option linter.unusedSimpArgs false
open Go.RowKit
theorem rk_iff{l:AL}{s:SH} : rk l s=true↔s.bid.Lot=l.Name∧l.Reserve≤s.bid.Price:=by
 unfold rk; rw [Bool.and_eq_true,seq_iff,decide_eq_true_eq]
def sumU:List SH→Int
 | []=>0
 | s::r=>s.bid.Units+sumU r
theorem sumU_app:∀a b:List SH,sumU (a++b)=sumU a+sumU b
 | [],b=>by simp [sumU]
 | x::a,b=>by rw [List.cons_append,sumU,sumU,sumU_app a b]; omega
theorem sumU_perm{a b:List SH}(h:a.Perm b):sumU a=sumU b:=by
 induction h with
 | nil=>rfl
 | cons x _ ih=>simp only [sumU,ih]
 | swap x y l=>simp only [sumU]; omega
 | trans _ _ h1 h2=>exact h1.trans h2

def gt(n:Int)(T:List SH)(s:SH):Int:=min (max (n-sumU (T.filter fun t=>bef t s)) 0) s.bid.Units
theorem filt_pre{P r:List SH}{s:SH}(h:Bef (P++s::r)):(P++s::r).filter (fun t=>bef t s)=P:=by
 have h':=List.pairwise_append.1 h;have h2:=List.pairwise_cons.1 h'.2.1;rw [List.filter_append,List.filter_cons,bef_irr,List.filter_eq_self.2 (fun t ht=>h'.2.2 t ht s List.mem_cons_self),List.filter_eq_nil_iff.2 (fun t ht=>by rw [bef_asym (h2.1 t ht)]; simp)]
 simp
theorem tk_zero{p:SH→Int} : ∀{r:List SH},uOk r→tk p 0 r=[]
 | [],_=>rfl
 | s::r,h=>by rw [tk,decide_eq_true (by have:=h s List.mem_cons_self; omega),cond_true]
section
variable {U:Int} {T:List SH}
theorem gt_at{P r:List SH}{s:SH}(h:T=P++s::r)(hT:Bef T):gt U T s=min (max (U-sumU P) 0) s.bid.Units:=by
 unfold gt; rw [h,filt_pre (h ▸ hT)]
theorem step_n{P:List SH}{s:SH}{n:Int}(hn:n=max (U-sumU P) 0)(hs:1≤s.bid.Units):n-min n s.bid.Units=max (U-sumU (P++[s])) 0:=by
 rw [sumU_app]; simp only [sumU]; omega
theorem tk_eq(p:SH→Int)(hT:Bef T)(hu:uOk T):∀(r P:List SH)(n:Int),T=P++r→n=max (U-sumU P) 0 →
  tk p n r=(r.filter fun s=>!(decide (gt U T s=0))).map fun s=>⟨s.index,gt U T s,p s⟩
 | [],_,_,_,_=>rfl
 | s::r,P,n,h,hn=>by
  have hs:=hu s (by rw [h]; simp);have hg:=gt_at (U:=U) h hT;rw [←hn] at hg;have ih:=tk_eq p hT hu r (P++[s]) (n-min n s.bid.Units) (by rw [h]; simp) (step_n hn hs.1);rw [tk,List.filter_cons,hg]
  by_cases hz:min n s.bid.Units=0
  ·rw [decide_eq_true hz,cond_true,Bool.not_true];have hn0:n-min n s.bid.Units=0:=by omega
   rw [hn0,tk_zero (fun t ht=>hu t (by rw [h]; simp [ht]))] at ih;simpa using ih
  ·rw [decide_eq_false hz,cond_false,ih];simp [hg]
def low(q:Int)(W:List SH):Int:=W.foldl (fun _ s=>s.bid.Price) q
theorem lowP_eq(hT:Bef T)(hu:uOk T):∀(r P:List SH)(n q:Int),T=P++r→n=max (U-sumU P) 0 →
  lowP q n r=low q (r.filter fun s=>!(decide (gt U T s=0)))
 | [],_,_,_,_,_=>rfl
 | s::r,P,n,q,h,hn=>by
  have hs:=hu s (by rw [h]; simp);have hg:=gt_at (U:=U) h hT;rw [←hn] at hg;rw [lowP,lowP_eq hT hu r (P++[s]) (n-min n s.bid.Units) _ (by rw [h]; simp) (step_n hn hs.1),List.filter_cons,hg]
  by_cases hz:min n s.bid.Units=0
  ·rw [decide_eq_true hz,decide_eq_false (by omega)]; rfl
  ·rw [decide_eq_false hz,decide_eq_true (by omega)]; rfl
def rej(q:Int)(g:SH→Int)(T:List SH):Int:=match T.find? (fun s=>decide (g s<s.bid.Units)) with | some s=>s.bid.Price | none=>q
theorem rejP_eq(hT:Bef T)(hu:uOk T)(q:Int):∀(r P:List SH)(n:Int),T=P++r→n=max (U-sumU P) 0→rejP q n r=rej q (gt U T) r
 | [],_,_,_,_=>rfl
 | s::r,P,n,h,hn=>by
  have hs:=hu s (by rw [h]; simp);have hg:=gt_at (U:=U) h hT;rw [←hn] at hg;rw [rejP,rejP_eq hT hu q r (P++[s]) (n-min n s.bid.Units) (by rw [h]; simp) (step_n hn hs.1),rej,rej,List.find?_cons,hg];cases decide (min n s.bid.Units<s.bid.Units)<;>rfl
def sumG(g:SH→Int):List SH→Int
 | []=>0
 | s::r=>g s+sumG g r
theorem lftN_eq(hT:Bef T)(hu:uOk T):∀(r P:List SH)(n q:Int),T=P++r→n=max (U-sumU P) 0→lftN q n r=q-sumG (gt U T) r
 | [],_,_,_,_,_=>by simp [lftN,sumG]
 | s::r,P,n,q,h,hn=>by
  have hs:=hu s (by rw [h]; simp);have hg:=gt_at (U:=U) h hT;rw [←hn] at hg;rw [lftN,lftN_eq hT hu r (P++[s]) (n-min n s.bid.Units) _ (by rw [h]; simp) (step_n hn hs.1),sumG,hg]; omega
end
def rkG(bs:List AB)(l:AL)(s:SH):Int:=gt l.Units (rkd bs l) s
def won(bs:List AB)(l:AL):List SH:=(rkd bs l).filter fun s=>!(decide (rkG bs l s=0))
def lowA(bs:List AB)(l:AL):Int:=low l.Reserve (won bs l)
def rejA(bs:List AB)(l:AL):Int:=rej l.Reserve (rkG bs l) (rkd bs l)
def prc(rule:Int)(bs:List AB)(l:AL)(s:SH):Int:=bif decide (rule=1) then lowA bs l else bif decide (rule=2) then rejA bs l else s.bid.Price
def awL(rule:Int)(bs:List AB)(l:AL):List AW:=(won bs l).map fun s=>⟨s.index,rkG bs l s,prc rule bs l s⟩
theorem rkd_uok{bs:List AB}{l:AL}(hu:∀b∈bs,1≤b.Units∧b.Units≤1048576):uOk (rkd bs l):=fun s hs=>hu _ (zs_mem (Qbh.1 hs).1)
theorem tkA{bs:List AB}{l:AL}(hu:∀b∈bs,1≤b.Units∧b.Units≤1048576)(h0:0≤l.Units)(p:SH→Int):tk p l.Units (rkd bs l)=(won bs l).map fun s=>⟨s.index,rkG bs l s,p s⟩ :=
 tk_eq p (rkd_bef bs l) (rkd_uok hu) (rkd bs l) [] l.Units rfl (by simp [sumU]; omega)
theorem f12n2_eq{a:AA}(hv:Vl a){k:Nat}{l:AL}(hk:at? a.Lots (k:Int)=some l)(hm:l∈a.Lots)(o:List AW)(ho:o.length≤10000):f12n2 a (k:Int) o=some (.norm (o++awL a.Rule a.Bids l)):=by
 have hu:∀b∈a.Bids,1≤b.Units∧b.Units≤1048576:=fun b hb=>⟨(hv.bids b hb).2.1,(hv.bids b hb).2.2.1⟩;have hl:=hv.lots l hm;have h0:0≤l.Units:=by omega
 have e35:f35r1 a l=some ():=rfl;have e36:f36r1=some ():=rfl;unfold f12n2;rw [hk];simp only [Option.bind_some,e35,e36];unfold awL prc
 by_cases h1:a.Rule=1
 ·rw [decide_eq_true h1,cond_true,f56_eq hv.nb hu h0 hl.2.2.1];obtain ⟨q,e⟩:=f53r6_eq (a:=a) (l:=l) (lowP l.Reserve l.Units (rkd a.Bids l)) o hv.nb hu h0 hl.2.2.1 ho;simp only [Option.bind_some,cond_true];unfold f12n3;rw [e,tkA hu h0];have e2:lowP l.Reserve l.Units (rkd a.Bids l)=lowA a.Bids l:=lowP_eq (rkd_bef a.Bids l) (rkd_uok hu) (rkd a.Bids l) [] l.Units l.Reserve rfl (by simp [sumU]; omega);rw [e2];cases q<;>rfl
 ·rw [decide_eq_false h1,cond_false]
  by_cases h2:a.Rule=2
  ·rw [decide_eq_true h2,cond_true,f57_eq hv.nb hu h0 hl.2.2.1];obtain ⟨q,e⟩:=f53r7_eq (a:=a) (l:=l) (rejP l.Reserve l.Units (rkd a.Bids l)) o hv.nb hu h0 hl.2.2.1 ho;simp only [Option.bind_some,cond_true,cond_false];unfold f12n4;rw [e,tkA hu h0];have e2:rejP l.Reserve l.Units (rkd a.Bids l)=rejA a.Bids l:=rejP_eq (rkd_bef a.Bids l) (rkd_uok hu) l.Reserve (rkd a.Bids l) [] l.Units rfl (by simp [sumU]; omega);rw [e2];cases q<;>rfl
  ·rw [decide_eq_false h2,cond_false];obtain ⟨q,e⟩:=f53r8_eq (a:=a) (l:=l) 0 o hv.nb hu h0 hl.2.2.1 ho;unfold f12n5;rw [e,tkA hu h0];cases q<;>rfl
theorem awL_len(rule:Int)(bs:List AB)(l:AL):(awL rule bs l).length≤bs.length:=by
 unfold awL won;rw [List.length_map];exact Nat.le_trans (List.length_filter_le _ _) (rkd_len bs l)
theorem f12n6_at{a:AA}(hv:Vl a):∀(r:List AL)(f k:Nat)(o:List AW),a.Lots.drop k=r→r.length<f→o.length+100*r.length≤2000→f12n6 f a (k:Int) o=some (.exit0 (o++r.flatMap (awL a.Rule a.Bids)))
 | _,0,_,_,_,h,_=>absurd h (Nat.not_lt_zero _)
 | [],f+1,k,o,hd,_,_=>by
  have:=Qac hd;rw [f12n6,decide_eq_false (by omega),cond_false,List.flatMap_nil,List.append_nil]
 | l::r,f+1,k,o,hd,hf,ho=>by
  have hk:=dropAt hd;have hnl:=hv.nl;have hnb:=hv.nb;have hw:=awL_len a.Rule a.Bids l;rw [List.length_cons] at ho hf;rw [f12n6,decide_eq_true (by have:=hk.2.1; omega),cond_true,f12n2_eq hv hk.1 (List.mem_of_mem_drop (hd ▸ List.mem_cons_self)) o (by omega)];simp only [Option.bind_some];rw [wrSucc (by have:=hk.2.1; omega),f12n6_at hv r f (k+1) _ hk.2.2 (by omega) (by rw [List.length_append]; omega),List.flatMap_cons,List.append_assoc]
def cA(x y:AW):Int:=cmpI x.Bid y.Bid
theorem cA_cmp:Cmp cA:=Cmp.int Qb.Bid
theorem f38_eq(x y:AW):f38 x y=some (cA x y):=by unfold f38 f38n0; rw [f39_eq]; rfl
def outA(a:AA):List AW:=a.Lots.flatMap (awL a.Rule a.Bids)
theorem outA_len{a:AA}(hv:Vl a):(outA a).length≤1600:=by
 have h:∀ls:List AL,(ls.flatMap (awL a.Rule a.Bids)).length≤100*ls.length:=fun ls=>by
  induction ls with
  | nil=>simp
  | cons l r ih =>
   have:=awL_len a.Rule a.Bids l;have:=hv.nb;rw [List.flatMap_cons,List.length_append,List.length_cons]; omega
 have:=h a.Lots;have:=hv.nl;unfold outA; omega
theorem f12_good{a:AA}(h:okA a=true):f12 a=some (sortL cA (outA a),0):=by
 have hv:=okA_vl h;have h1:f12n1 a=some (.norm (outA a)):=by
  unfold f12n1;have hl:=hv.nl;have:=f12n6_at hv a.Lots FUEL 0 [] rfl (Qaj (by omega)) (by simp; omega);rw [show ((0:Nat):Int)=0 from rfl,List.nil_append] at this;rw [this]; rfl
 unfold f12 f12n0;rw [f31_eq,h,cond_true];simp only [Option.bind_some,decide_true,cond_true,h1];rw [so37_38_val f38_eq cA_cmp.SWO (by have:=outA_len hv; omega)];rfl
theorem f12_none{a:AA}(h:okA a=false):f12 a=some ([],8):=by
 unfold f12 f12n0;rw [f31_eq,h]; rfl

def Z(bs:List AB):List SH:=zs bs 0
def bfr(bs:List AB)(s:SH):Int:=sumU ((Z bs).filter fun t=>seq t.bid.Lot s.bid.Lot&&bef t s)
def gets(bs:List AB)(l:AL)(s:SH):Int:=bif decide (l.Reserve≤s.bid.Price) then min (max (l.Units-bfr bs s) 0) s.bid.Units else 0
theorem rkG_eq{bs:List AB}{l:AL}{s:SH}(h:rk l s=true):rkG bs l s=gets bs l s:=by
 rw [rk_iff] at h;unfold rkG gt gets bfr;rw [decide_eq_true h.2,cond_true,sumU_perm ((rkd_perm bs l).filter _)];unfold all_ Z;rw [List.filter_filter]
 congr 4
 apply List.filter_congr
 intro t _;unfold rk;rw [h.1];cases h1:bef t s with
 | false=>simp
 | true =>
  rw [bef_iff] at h1;rw [decide_eq_true (by omega:l.Reserve≤t.bid.Price)]; simp
def aw(a:AA)(s:SH):Option AW:=match lotN s.bid.Lot a.Lots with
 | some l=>bif decide (gets a.Bids l s=0) then none else some ⟨s.index,gets a.Bids l s,prc a.Rule a.Bids l s⟩
 | none=>none
def awS(a:AA):List AW:=(Z a.Bids).filterMap (aw a)
theorem aw_bid{a:AA}{s:SH}{x:AW}(h:aw a s=some x):x.Bid=s.index:=by
 unfold aw at h
 split at h
 ·rename_i l _;cases k:decide (gets a.Bids l s=0) with
  | true=>rw [k] at h; cases h
  | false=>rw [k] at h; obtain rfl:=Option.some.inj h; rfl
 ·cases h
theorem gets_rk{bs:List AB}{l:AL}{s:SH}(hn:s.bid.Lot=l.Name)(h:gets bs l s≠0):rk l s=true:=by
 unfold gets at h;unfold rk;cases k:decide (l.Reserve≤s.bid.Price) with
 | false=>rw [k] at h; exact absurd rfl h
 | true=>rw [hn,seq_refl]; rfl
theorem outA_mem{a:AA}(hv:Vl a){x:AW} : x∈outA a↔x∈awS a:=by
 unfold outA awS;rw [List.mem_flatMap,List.mem_filterMap]
 constructor
 ·rintro ⟨l,hl,hx⟩
  unfold awL at hx;obtain ⟨s,hs,rfl⟩:=List.mem_map.1 hx;unfold won at hs;obtain ⟨h1,h2⟩:=List.mem_filter.1 hs;obtain ⟨h3,h4⟩:=Qbh.1 h1;rw [rkG_eq h4] at h2 ⊢;have e:s.bid.Lot=l.Name:=by
   unfold rk at h4;rw [Bool.and_eq_true] at h4;exact seq_iff.1 h4.1
  refine ⟨s,h3,?_⟩;unfold aw;rw [e,lotN_of hv.srt l hl];have h5:decide (gets a.Bids l s=0)=false:=by simpa using h2
  simp only [h5,cond_false]
 ·rintro ⟨s,hs,hx⟩
  unfold aw at hx
  split at hx
  ·rename_i l hl;obtain ⟨k1,k2⟩:=lotN_mem hl;cases k:decide (gets a.Bids l s=0) with
   | true=>rw [k] at hx; cases hx
   | false =>
    rw [k] at hx;obtain rfl:=Option.some.inj hx;have hr:=gets_rk k2.symm (of_decide_eq_false k);refine ⟨l,k1,?_⟩;unfold awL won;refine List.mem_map.2 ⟨s,List.mem_filter.2 ⟨Qbh.2 ⟨hs,hr⟩,?_⟩,?_⟩
    ·rw [rkG_eq hr,k]; rfl
    ·rw [rkG_eq hr]
  ·cases hx
theorem awS_lt(a:AA):(awS a).Pairwise fun x y=>x.Bid<y.Bid:=by
 unfold awS;rw [List.pairwise_filterMap];refine (zs_idx a.Bids 0).1.imp fun {s t} h x hx y hy=>?_;rw [aw_bid hx,aw_bid hy]; exact h
theorem nodup_bid{l:List AW}(h:l.Pairwise fun x y=>x.Bid≠y.Bid):l.Nodup:=h.imp fun {x y} h e=>h (by rw [e])
theorem mem_awL{rule:Int}{bs:List AB}{l:AL}{x:AW}(h:x∈awL rule bs l):∃s∈Z bs,s.index=x.Bid∧s.bid.Lot=l.Name:=by
 unfold awL won at h;obtain ⟨s,hs,rfl⟩:=List.mem_map.1 h;obtain ⟨h3,h4⟩:=Qbh.1 (List.mem_filter.1 hs).1;unfold rk at h4;rw [Bool.and_eq_true] at h4;exact ⟨s,h3,rfl,seq_iff.1 h4.1⟩
theorem Z_inj{bs:List AB}{s t:SH}(hs:s∈Z bs)(ht:t∈Z bs)(h:s.index=t.index):s=t:=by
 obtain ⟨_,_,h3,h4⟩:=(zs_idx bs 0).2 s hs;obtain ⟨_,_,k3,k4⟩:=(zs_idx bs 0).2 t ht;rw [h] at h4;rw [h4] at k4;cases s; cases t
 simp_all
theorem outA_ne{a:AA}(hv:Vl a):(outA a).Pairwise fun x y=>x.Bid≠y.Bid:=by
 unfold outA;rw [List.pairwise_flatMap];refine ⟨fun l hl=>?_,hv.srt.imp fun {l m} hlm x hx y hy e=>?_⟩
 ·unfold awL won;rw [List.pairwise_map];refine List.Pairwise.filter _ ?_;have hb:=rkd_bef a.Bids l;refine (List.Pairwise.and_mem.1 hb).imp fun {s t} h e=>?_;have:=Z_inj (Qbh.1 h.1).1 (Qbh.1 h.2.1).1 e;rw [this] at h;rw [bef_irr] at h; exact absurd h.2.2 (by simp)
 ·obtain ⟨s,h1,h2,h3⟩:=mem_awL hx;obtain ⟨t,k1,k2,k3⟩:=mem_awL hy;have:=Z_inj h1 k1 (by rw [h2,k2,e]);rw [this,k3] at h3;exact sltNe hlm h3.symm
theorem out_perm{a:AA}(hv:Vl a):(outA a).Perm (awS a) :=
 (List.perm_ext_iff_of_nodup (nodup_bid (outA_ne hv)) (nodup_bid ((awS_lt a).imp fun h=>by omega))).2 fun x=>outA_mem hv
theorem sort_out{a:AA}(hv:Vl a):sortL cA (outA a)=awS a:=by
 have hp:(sortL cA (outA a)).Perm (awS a):=(sortL_perm cA_cmp.SWO _).trans (out_perm hv);have o:SWo fun x y:AW=>decide (cA x y<0):=cA_cmp.swo;have hn:(awS a).Pairwise fun x y=>eqv (fun x y:AW=>decide (cA x y<0)) x y=false:=(awS_lt a).imp fun {x y} h=>by
  rw [←Bool.not_eq_true,cA_cmp.eqv];unfold cA;rw [cmpI_zero]; omega
 have s1:Sd (fun x y:AW=>decide (cA x y<0)) (sortL cA (outA a)):=sortL_sorted cA_cmp.SWO _;have s2:Sd (fun x y:AW=>decide (cA x y<0)) (awS a):=(awS_lt a).imp fun {x y} h=>by
  rw [decide_eq_false_iff_not];unfold cA;rw [cmpI_neg]; omega
 exact (sorted_one o s2 s1 (Cl.of_perm hp hn o)).symm
theorem f12_eq(a:AA):f12 a=some (bif okA a then (awS a,0) else ([],8)):=by
 cases h:okA a with
 | true=>rw [f12_good h,sort_out (okA_vl h)]; rfl
 | false=>rw [f12_none h]; rfl
end Go.Proofs.Ythpceddjepbamaa
namespace Go.Proofs.Ythpceddjepbamaa
set_option linter.unusedVariables false
set_option linter.unusedSimpArgs false
set_option maxRecDepth 100000
open Go.RowKit
theorem at_Z{bs:List AB}{s:SH}(h:s∈Z bs):at? bs s.index=some s.bid:=by
 obtain ⟨h1,h2,_,h4⟩:=(zs_idx bs 0).2 s h;unfold at?;rw [if_pos h1];rw [show s.index-0=s.index by omega] at h4;exact h4
theorem Z_rng{bs:List AB}{s:SH}(h:s∈Z bs):0≤s.index∧s.index<bs.length:=by
 obtain ⟨h1,h2,_,_⟩:=(zs_idx bs 0).2 s h;omega
theorem Z_bid{bs:List AB}{s:SH}(h:s∈Z bs):s.bid∈bs:=zs_mem h

theorem gets_rng{bs:List AB}{l:AL}{s:SH}(h:1≤s.bid.Units):0≤gets bs l s∧gets bs l s≤s.bid.Units:=by
 unfold gets;cases decide (l.Reserve≤s.bid.Price) with
 | false=>rw [cond_false]; omega
 | true=>rw [cond_true]; omega
theorem low_mem(q:Int):∀W:List SH,low q W=q∨∃s∈W,low q W=s.bid.Price
 | []=>.inl rfl
 | x::r=>by
  have e:low q (x::r)=low x.bid.Price r:=rfl;rw [e];rcases low_mem x.bid.Price r with h | ⟨s,hs,h⟩
  ·exact .inr ⟨x,List.mem_cons_self,h⟩
  ·exact .inr ⟨s,List.mem_cons_of_mem _ hs,h⟩
theorem rej_mem(q:Int)(g:SH→Int)(T:List SH):(rej q g T=q∧∀s∈T,s.bid.Units≤g s)∨∃s∈T,g s<s.bid.Units∧rej q g T=s.bid.Price:=by
 unfold rej;cases h:T.find? (fun s=>decide (g s<s.bid.Units)) with
 | none =>
  refine .inl ⟨rfl,fun s hs=>?_⟩;have:=List.find?_eq_none.1 h s hs;simp at this; exact this
 | some s =>
  have h1:=List.mem_of_find?_eq_some h;have h2:=List.find?_some h;exact .inr ⟨s,h1,of_decide_eq_true h2,rfl⟩
structure AwOk (a:AA) (x:AW) (s:SH) (l:AL):Prop where
 z:s∈Z a.Bids
 l_:l∈a.Lots
 nm:s.bid.Lot=l.Name
 idx:x.Bid=s.index
 un:x.Units=gets a.Bids l s
 pr:x.Price=prc a.Rule a.Bids l s
 rk_:rk l s=true
 pos:1≤x.Units
 le:x.Units≤s.bid.Units
theorem awS_ok{a:AA}(hv:Vl a){x:AW}(h:x∈awS a):∃s l,AwOk a x s l:=by
 unfold awS at h;obtain ⟨s,hs,hx⟩:=List.mem_filterMap.1 h;unfold aw at hx
 split at hx
 ·rename_i l hl;obtain ⟨k1,k2⟩:=lotN_mem hl;cases k:decide (gets a.Bids l s=0) with
  | true=>rw [k] at hx; cases hx
  | false =>
   rw [k] at hx;obtain rfl:=Option.some.inj hx;have h0:=of_decide_eq_false k;have hr:=gets_rng (bs:=a.Bids) (l:=l) (s:=s) (hv.bids _ (Z_bid hs)).2.1;exact ⟨s,l,hs,k1,k2.symm,rfl,rfl,rfl,gets_rk k2.symm h0,by show 1≤gets a.Bids l s; omega,hr.2⟩
 ·cases hx
theorem prc_rng{a:AA}(hv:Vl a){l:AL}(hl:l∈a.Lots){s:SH}(hs:s∈Z a.Bids)(hr:rk l s=true):l.Reserve≤prc a.Rule a.Bids l s∧prc a.Rule a.Bids l s≤33554432:=by
 have h1:=hv.lots l hl;have h2:∀t∈rkd a.Bids l,l.Reserve≤t.bid.Price∧t.bid.Price≤33554432:=fun t ht=>by
  have:=Qbh.1 ht;have h3:=hv.bids _ (Z_bid this.1);exact ⟨(rk_iff.1 this.2).2,h3.2.2.2.2⟩
 have h3:=h2 s (Qbh.2 ⟨hs,hr⟩);unfold prc;cases decide (a.Rule=1) with
 | true =>
  rw [cond_true];unfold lowA;rcases low_mem l.Reserve (won a.Bids l) with e | ⟨t,ht,e⟩
  ·omega
  ·have:=h2 t (List.mem_filter.1 ht).1; omega
 | false =>
  cases decide (a.Rule=2) with
  | true =>
   rw [cond_false,cond_true];unfold rejA;rcases rej_mem l.Reserve (rkG a.Bids l) (rkd a.Bids l) with ⟨e,_⟩|⟨t,ht,_,e⟩
   ·omega
   ·have:=h2 t ht; omega
  | false=>exact h3
theorem mul_rng{u p U P:Int}(h0:0≤u)(h1:u≤U)(h2:0≤p)(h3:p≤P):0≤u*p∧u*p≤U*P :=
 ⟨Int.mul_nonneg h0 h2,Int.mul_le_mul h1 h3 h2 (by omega)⟩
theorem awS_rng{a:AA}(hv:Vl a){x:AW}(h:x∈awS a):1≤x.Units∧x.Units≤1048576∧0≤x.Price∧x.Price≤33554432∧0≤x.Units*x.Price∧x.Units*x.Price≤35184372088832:=by
 obtain ⟨s,l,k⟩:=awS_ok hv h;have h1:=hv.bids _ (Z_bid k.z);have h2:=prc_rng hv k.l_ k.z k.rk_;have h3:=hv.lots l k.l_;have:=k.pos; have:=k.le;rw [←k.pr] at h2;have:=mul_rng (u:=x.Units) (p:=x.Price) (U:=1048576) (P:=33554432) (by omega) (by omega) (by omega) (by omega);exact ⟨by omega,by omega,by omega,by omega,this.1,this.2⟩
theorem awS_len(a:AA):(awS a).length≤a.Bids.length:=by
 unfold awS;refine Nat.le_trans (List.length_filterMap_le _ _) ?_;unfold Z; rw [zs_len]; exact Nat.le_refl _

def sumW(q:AW→Bool):List AW→Int
 | []=>0
 | x::r=>(bif q x then x.Units*x.Price else 0)+sumW q r
def mbr(bs:List AB)(x:AW):ByteArray:=match at? bs x.Bid with | some b=>b.Member | none=>str_x
theorem awS_at{a:AA}(hv:Vl a){x:AW}(h:x∈awS a):∃b,at? a.Bids x.Bid=some b∧b∈a.Bids:=by
 obtain ⟨s,l,k⟩:=awS_ok hv h;exact ⟨s.bid,by rw [k.idx]; exact at_Z k.z,Z_bid k.z⟩
theorem f40m_l{a:AA}(bh:List AW×Int)(m:ByteArray):∀(l:List AW)(n v:Int),(∀x∈l,(∃b,at? a.Bids x.Bid=some b)∧0≤x.Units*x.Price∧x.Units*x.Price≤35184372088832)→0≤n→n+35184372088832*l.length≤9000000000000000000 →
  f40r1n2L bh m a l n v=some (.exit0 (n+sumW (fun x=>seq (mbr a.Bids x) m) l))
 | [],n,v,_,_,_=>by rw [f40r1n2L,sumW,Int.add_zero]
 | x::r,n,v,h,h0,hn=>by
  obtain ⟨⟨b,hb⟩,h1,h2⟩:=h x List.mem_cons_self;have h':∀y∈r,(∃b,at? a.Bids y.Bid=some b)∧0≤y.Units*y.Price∧y.Units*y.Price≤35184372088832:=fun y hy=>h y (List.mem_cons_of_mem _ hy);rw [List.length_cons] at hn;have e42:f42r1 b m=some ():=rfl;rw [f40r1n2L,hb,sumW,mbr,hb];simp only [Option.bind_some,e42];cases seq b.Member m with
  | true =>
   rw [cond_true,cond_true,show wr64 (x.Units*x.Price)=x.Units*x.Price from wrIn (by omega) (by omega),show wr64 (n+x.Units*x.Price)=n+x.Units*x.Price from wrIn (by omega) (by omega),f40m_l bh m r _ _ h' (by omega) (by omega),Int.add_assoc]
  | false=>rw [cond_false,cond_false,f40m_l bh m r _ _ h' h0 (by omega),Int.zero_add]
theorem f40p_l{a:AA}(bh:List AW×Int):∀(l:List AW)(n v:Int),(∀x∈l,(∃b,at? a.Bids x.Bid=some b)∧0≤x.Units*x.Price∧x.Units*x.Price≤35184372088832)→0≤n→n+35184372088832*l.length≤9000000000000000000 →
  Qca bh a l n v=some (.exit0 (n+sumW (fun _=>true) l))
 | [],n,v,_,_,_=>by rw [Qca,sumW,Int.add_zero]
 | x::r,n,v,h,h0,hn=>by
  obtain ⟨⟨b,hb⟩,h1,h2⟩:=h x List.mem_cons_self;have h':∀y∈r,(∃b,at? a.Bids y.Bid=some b)∧0≤y.Units*y.Price∧y.Units*y.Price≤35184372088832:=fun y hy=>h y (List.mem_cons_of_mem _ hy);rw [List.length_cons] at hn;have e41:f41 b=some true:=rfl;rw [Qca,hb,sumW];simp only [Option.bind_some,e41];rw [cond_true,cond_true,show wr64 (x.Units*x.Price)=x.Units*x.Price from wrIn (by omega) (by omega),show wr64 (n+x.Units*x.Price)=n+x.Units*x.Price from wrIn (by omega) (by omega),f40p_l bh r _ _ h' (by omega) (by omega),Int.add_assoc]
theorem aw_fit{a:AA}(hv:Vl a):(0:Int)+35184372088832*((awS a).length:Int)≤9000000000000000000:=by
 have:=awS_len a;have:=hv.nb;omega
theorem aw_all{a:AA}(hv:Vl a):∀x∈awS a,(∃b,at? a.Bids x.Bid=some b)∧0≤x.Units*x.Price∧x.Units*x.Price≤35184372088832:=fun x hx=>by
 obtain ⟨b,h,_⟩:=awS_at hv hx;have:=awS_rng hv hx;exact ⟨⟨b,h⟩,this.2.2.2.2.1,this.2.2.2.2.2⟩
def paidS(a:AA)(m:ByteArray):Int:=sumW (fun x=>seq (mbr a.Bids x) m) (awS a)
def procS(a:AA):Int:=sumW (fun _=>true) (awS a)
theorem f16_eq(a:AA)(m:ByteArray):f16 a m=some (bif okA a then (paidS a m,0) else (0,8)):=by
 unfold f16 f16n0 f40r1 f40r1n0 f40r1n1;rw [f12_eq];cases h:okA a with
 | true =>
  have hv:=okA_vl h;simp only [cond_true,Option.bind_some];rw [f40r1n2_run (awS a,0) m a 0 (Qao (by show (awS a).length≤_; have:=awS_len a; have:=hv.nb; omega))];rw [show f40r1n2L (awS a,0) m a (awS a,(0:Int)).1 0 0=_ from f40m_l (awS a,0) m (awS a) 0 0 (aw_all hv) (Int.le_refl _) (aw_fit hv),Int.zero_add]; rfl
 | false =>
  simp only [cond_false,Option.bind_some];rw [f40r1n2_run ([],8) m a 0 (Qao (by simp))]; rfl
theorem f15_eq(a:AA):f15 a=some (bif okA a then (procS a,0) else (0,8)):=by
 unfold f15 f15n0 f40_41 f40_41n0 f40_41n1;rw [f12_eq];cases h:okA a with
 | true =>
  have hv:=okA_vl h;simp only [cond_true,Option.bind_some];rw [f40_41n2_run (awS a,0) a 0 (Qao (by show (awS a).length≤_; have:=awS_len a; have:=hv.nb; omega))];rw [show Qca (awS a,0) a (awS a,(0:Int)).1 0 0=_ from f40p_l (awS a,0) (awS a) 0 0 (aw_all hv) (Int.le_refl _) (aw_fit hv),Int.zero_add]; rfl
 | false =>
  simp only [cond_false,Option.bind_some];rw [f40_41n2_run ([],8) a 0 (Qao (by simp))]; rfl

def leftL(bs:List AB)(l:AL):Int:=l.Units-sumG (rkG bs l) (rkd bs l)
theorem f18n2_eq{a:AA}(hv:Vl a){k:Nat}{l:AL}(hk:at? a.Lots (k:Int)=some l)(hm:l∈a.Lots)(o:List Int)(ho:o.length≤1000):f18n2 a (k:Int) o=some (.norm (o++[leftL a.Bids l])):=by
 have hu:∀b∈a.Bids,1≤b.Units∧b.Units≤1048576:=fun b hb=>⟨(hv.bids b hb).2.1,(hv.bids b hb).2.2.1⟩;have hl:=hv.lots l hm;have h0:0≤l.Units:=by omega
 have e35:f35r1 a l=some ():=rfl;have e:lftN l.Units l.Units (rkd a.Bids l)=leftL a.Bids l:=lftN_eq (rkd_bef a.Bids l) (rkd_uok hu) (rkd a.Bids l) [] l.Units l.Units rfl (by simp [sumU]; omega);unfold f18n2 f18n3 f18n4;rw [hk];simp only [Option.bind_some,e35];rw [f53r9_eq hv.nb hu h0 hl.2.2.1,e];simp only [Option.bind_some];rw [req,Qaw (by omega) (by omega),cond_true]
theorem f18n5_at{a:AA}(hv:Vl a):∀(r:List AL)(f k:Nat)(o:List Int),a.Lots.drop k=r→r.length<f→o.length+r.length≤100→f18n5 f a (k:Int) o=some (.exit0 (o++r.map (leftL a.Bids)))
 | _,0,_,_,_,h,_=>absurd h (Nat.not_lt_zero _)
 | [],f+1,k,o,hd,_,_=>by
  have:=Qac hd;rw [f18n5,decide_eq_false (by omega),cond_false,List.map_nil,List.append_nil]
 | l::r,f+1,k,o,hd,hf,ho=>by
  have hk:=dropAt hd;have hnl:=hv.nl;rw [List.length_cons] at ho hf;rw [f18n5,decide_eq_true (by have:=hk.2.1; omega),cond_true,f18n2_eq hv hk.1 (List.mem_of_mem_drop (hd ▸ List.mem_cons_self)) o (by omega)];simp only [Option.bind_some];rw [wrSucc (by have:=hk.2.1; omega),f18n5_at hv r f (k+1) _ hk.2.2 (by omega) (by rw [List.length_append]; simp; omega),List.map_cons,List.append_assoc]; rfl
def leftS(a:AA):List Int:=a.Lots.map (leftL a.Bids)
theorem f18_eq(a:AA):f18 a=some (bif okA a then (leftS a,0) else ([],8)):=by
 unfold f18 f18n0;rw [f31_eq];cases h:okA a with
 | true =>
  have hv:=okA_vl h;have h1:f18n1 a=some (.norm (leftS a)):=by
   unfold f18n1;have hl:=hv.nl;have:=f18n5_at hv a.Lots FUEL 0 [] rfl (Qaj (by omega)) (by simp; omega);rw [show ((0:Nat):Int)=0 from rfl,List.nil_append] at this;rw [this]; rfl
  simp only [cond_true,Option.bind_some,decide_true,h1]
 | false=>rfl

theorem f34_eq(a:AA)(m:ByteArray):f34 a m=some (bif okA a then paidS a m else -1):=by
 unfold f34 f34n0;rw [f16_eq];cases okA a<;>rfl
theorem alive_t:f10=some true:=by
 unfold f10 f10n0 f10n1 f10n2 f10n3;simp only [f34_eq]
 kernel_rfl
def grt(a:AA):Bool:=!(decide (a.Lots.length≤20))||!(decide (a.Bids.length≤110))
theorem f11_eq(a:AA):f11 a=some (grt a):=by
 unfold f11 f11n0 grt;rw [show decide ((20:Int)<(a.Lots.length:Int))=_ from lenD a.Lots.length 20,show decide ((110:Int)<(a.Bids.length:Int))=_ from lenD a.Bids.length 110];cases decide (a.Lots.length≤20)<;>rfl
end Go.Proofs.Ythpceddjepbamaa
namespace Go.Proofs.Ythpceddjepbamaa
set_option linter.unusedVariables false
set_option linter.unusedSimpArgs false
open Go.RowKit
theorem won_mem{bs:List AB}{l:AL}{s:SH} : s∈won bs l↔s∈Z bs∧rk l s=true∧gets bs l s≠0:=by
 unfold won;rw [List.mem_filter,Qbh]
 constructor
 ·rintro ⟨⟨h1,h2⟩,h3⟩
  rw [rkG_eq h2] at h3;exact ⟨h1,h2,by simpa using h3⟩
 ·rintro ⟨h1,h2,h3⟩
  exact ⟨⟨h1,h2⟩,by rw [rkG_eq h2]; simpa using h3⟩

theorem low_le:∀{W:List SH} {q:Int} {s:SH},Bef W→s∈W→low q W≤s.bid.Price
 | x::r,q,s,h,hs=>by
  have e:low q (x::r)=low x.bid.Price r:=rfl;have h':=List.pairwise_cons.1 h;rw [e];rcases List.mem_cons.1 hs with rfl | hs
  ·rcases low_mem s.bid.Price r with k | ⟨t,ht,k⟩
   ·omega
   ·have:=bef_iff.1 (h'.1 t ht); omega
  ·exact low_le h'.2 hs
theorem won_bef(bs:List AB)(l:AL):Bef (won bs l):=List.Pairwise.filter _ (rkd_bef bs l)
theorem lowA_le{bs:List AB}{l:AL}{t:SH}(ht:t∈won bs l):lowA bs l≤t.bid.Price:=low_le (won_bef bs l) ht
theorem lowA_mem{bs:List AB}{l:AL}{t:SH}(ht:t∈won bs l):∃s∈won bs l,lowA bs l=s.bid.Price:=by
 unfold lowA;cases h:won bs l with
 | nil=>rw [h] at ht; cases ht
 | cons x r =>
  have e:low l.Reserve (x::r)=low x.bid.Price r:=rfl;rw [e];rcases low_mem x.bid.Price r with k | ⟨s,hs,k⟩
  ·exact ⟨x,List.mem_cons_self,k⟩
  ·exact ⟨s,List.mem_cons_of_mem _ hs,k⟩

theorem sumG_perm{g:SH→Int}{a b:List SH}(h:a.Perm b):sumG g a=sumG g b:=by
 induction h with
 | nil=>rfl
 | cons x _ ih=>simp only [sumG,ih]
 | swap x y l=>simp only [sumG]; omega
 | trans _ _ h1 h2=>exact h1.trans h2
theorem sumG_congr{f g:SH→Int} : ∀{l:List SH},(∀s∈l,f s=g s)→sumG f l=sumG g l
 | [],_=>rfl
 | s::r,h=>by rw [sumG,sumG,h s List.mem_cons_self,sumG_congr fun t ht=>h t (List.mem_cons_of_mem _ ht)]
theorem sum_lot(bs:List AB)(l:AL):sumG (gets bs l) ((Z bs).filter fun s=>seq s.bid.Lot l.Name)=l.Units-leftL bs l:=by
 have e1:sumG (rkG bs l) (rkd bs l)=sumG (gets bs l) (rkd bs l):=sumG_congr fun s hs=>rkG_eq (Qbh.1 hs).2;unfold leftL;rw [e1,sumG_perm (rkd_perm bs l)];have h:∀L:List SH,sumG (gets bs l) (L.filter fun s=>seq s.bid.Lot l.Name)=sumG (gets bs l) (L.filter (rk l)):=fun L=>by
  induction L with
  | nil=>rfl
  | cons x r ih =>
   rw [List.filter_cons,List.filter_cons];have hx:rk l x=(seq x.bid.Lot l.Name&&decide (l.Reserve≤x.bid.Price)):=rfl;rw [hx];cases seq x.bid.Lot l.Name with
   | false=>simpa using ih
   | true =>
    cases k:decide (l.Reserve≤x.bid.Price) with
    | true=>simp only [Bool.and_self,if_true,sumG,ih]
    | false =>
     have:gets bs l x=0:=by unfold gets; rw [k]; rfl
     simp only [Bool.and_false,if_true,sumG,this,ih]
     simp
 rw [h];unfold all_ Z;omega
theorem f14_eq{a:AA}(h:grt a=false):f14r1 a=some (a.Lots,a.Bids):=by
 unfold grt at h;simp only [Bool.or_eq_false_iff,Bool.not_eq_false',decide_eq_true_eq] at h;have h1:fit a.Lots.length 32=true:=Qaw (by omega) (by omega);have h2:fit a.Bids.length 48=true:=Qaw (by omega) (by omega);unfold f14r1 f14r1n0;rw [req,req,h1,h2];cases hl:a.Lots<;>cases hb:a.Bids<;>rfl

end Go.Proofs.Ythpceddjepbamaa
namespace Go.Proofs.Ythpceddjepbamaa
set_option linter.unusedVariables false
set_option linter.unusedSimpArgs false
open Go.RowKit
def Gs(a:AA)(s:SH):Int:=match aw a s with | some x=>x.Units | none=>0
theorem Gs_lot{a:AA}(hv:Vl a){l:AL}(hl:l∈a.Lots){s:SH}(h:s.bid.Lot=l.Name):Gs a s=gets a.Bids l s:=by
 unfold Gs aw;rw [h,lotN_of hv.srt l hl];show (match ((bif decide (gets a.Bids l s=0) then none else some ⟨s.index,gets a.Bids l s,prc a.Rule a.Bids l s⟩):Option AW) with | some x=>x.Units | none=>0)=_
 by_cases k:gets a.Bids l s=0
 ·rw [decide_eq_true k,cond_true,k]
 ·rw [decide_eq_false k,cond_false]
theorem Gs_rng{a:AA}(hv:Vl a){s:SH}(hs:s∈Z a.Bids):0≤Gs a s∧Gs a s≤s.bid.Units∧s.bid.Units≤1048576:=by
 have hb:=hv.bids _ (Z_bid hs);obtain ⟨⟨l,hl,hn⟩,h1,h2,_⟩:=hb;rw [Gs_lot hv hl hn.symm];have:=gets_rng (bs:=a.Bids) (l:=l) (s:=s) h1;exact ⟨this.1,this.2,h2⟩
theorem Z_at{bs:List AB}{k:Nat}{b:AB}(h:bs[k]?=some b):(⟨(k:Int),0,b⟩:SH)∈Z bs:=by
 have:=zs_has (i:=0) h
 rwa [Int.zero_add] at this

end Go.Proofs.Ythpceddjepbamaa
namespace Go.Proofs.Ythpceddjepbamaa
set_option linter.unusedVariables false
set_option linter.unusedSimpArgs false
open Go.RowKit
theorem rej_ge{q:Int}{g:SH→Int} : ∀{T:List SH},Bef T→∀r∈T,g r<r.bid.Units→r.bid.Price≤rej q g T
 | x::T,h,r,hr,hg=>by
  have h':=List.pairwise_cons.1 h;unfold rej;rw [List.find?_cons]
  by_cases hx:g x<x.bid.Units
  ·rw [decide_eq_true hx];show r.bid.Price≤x.bid.Price;rcases List.mem_cons.1 hr with rfl | hr
   ·exact Int.le_refl _
   ·have:=bef_iff.1 (h'.1 r hr); omega
  ·rw [decide_eq_false hx];rcases List.mem_cons.1 hr with rfl | hr
   ·exact absurd hg hx
   ·exact rej_ge h'.2 r hr hg
theorem rejA_ge{bs:List AB}{l:AL}{r:SH}(hr:r∈Z bs)(h1:rk l r=true)(hg:gets bs l r<r.bid.Units):r.bid.Price≤rejA bs l :=
 rej_ge (rkd_bef bs l) r (Qbh.2 ⟨hr,h1⟩) (by rw [rkG_eq h1]; exact hg)
theorem low_char{bs:List AB}{l:AL}{v:Int}{t:SH}(ht:t∈won bs l)(h1:∃s∈won bs l,v=s.bid.Price)(h2:∀s∈won bs l,v≤s.bid.Price):lowA bs l=v:=by
 obtain ⟨s,hs,e⟩:=lowA_mem ht;obtain ⟨u,hu,e2⟩:=h1;have:=h2 s hs;have:=lowA_le hu;omega



def up(k:Int)(t:SH):SH:=⟨if k≤t.index then t.index+1 else t.index,t.units,t.bid⟩


end Go.Proofs.Ythpceddjepbamaa
namespace Go.Proofs.Ythpceddjepbamaa
set_option linter.unusedVariables false
set_option linter.unusedSimpArgs false
open Go.RowKit


theorem f17L_eq(bn:List AL)(n:ByteArray):∀(r:List AL)(v:Int),(∃(j:Nat) (x:AL),f17n2L bn n r v=some (.ret (v+j))∧r[j]?=some x∧lotN n r=some x)∨(f17n2L bn n r v=some .exit0∧lotN n r=none)
 | [],v=>.inr ⟨rfl,rfl⟩
 | x::r,v=>by
  rw [f17n2L,lotN];cases h:seq x.Name n with
  | true=>exact .inl ⟨0,x,by simp,rfl,rfl⟩
  | false =>
   rcases f17L_eq bn n r (v+1) with ⟨j,y,h1,h2,h3⟩|⟨h1,h2⟩
   ·exact .inl ⟨j+1,y,by rw [cond_false,h1,show v+1+(j:Int)=v+((j+1:Nat):Int) by omega],by rw [List.getElem?_cons_succ]; exact h2,h3⟩
   ·exact .inr ⟨h1,h2⟩
theorem f17_eq{ls:List AL}(hl:ls.length≤1000)(n:ByteArray):(∃(j:Nat) (x:AL),f17 ls n=some (j:Int)∧at? ls (j:Int)=some x∧lotN n ls=some x)∨(f17 ls n=some (-1)∧lotN n ls=none):=by
 unfold f17 f17n0 f17n1;rw [f17n2_run ls n (Qao (by omega))];rcases f17L_eq ls n ls 0 with ⟨j,x,h1,h2,h3⟩|⟨h1,h2⟩
 ·rw [h1];exact .inl ⟨j,x,by rw [Int.zero_add]; rfl,by rw [Qaq]; exact h2,h3⟩
 ·rw [h1];exact .inr ⟨rfl,h2⟩
end Go.Proofs.Ythpceddjepbamaa
namespace Go.Proofs.Ythpceddjepbamaa
set_option linter.unusedVariables false
set_option linter.unusedSimpArgs false
open Go.RowKit
theorem f64_eq(s:ByteArray):f64 s=some (nmB s&&!(seq s str_house)):=by
 unfold f64 f64n0;rw [f52_eq];cases nmB s<;>rfl
theorem f47_eq(b:AB):f47 b=some (gdB b):=by
 unfold f47 f47n0 gdB;rw [f64_eq];cases nmB b.Member<;>cases seq b.Member str_house<;>cases decide (1≤b.Units)<;>cases decide (b.Units≤1048576)<;>cases decide (0≤b.Price)<;>rfl
theorem f32n2_eq{a:AA}{pre r:List AL}{x:AL}(h:a.Lots=pre++x::r)(hl:a.Lots.length≤1000):f32n2 ((pre.length:Nat):Int) a=some (bif inL x&&ordL pre.getLast? x then .norm else .ret):=by
 have h3:f32n3 ((pre.length:Nat):Int) a x=some (.norm (!(inL x&&ordL pre.getLast? x))):=by
  unfold f32n3 inL;rw [f52_eq,ltNot x.Units 1,ltNot 1048576 x.Units,ltNot x.Reserve 0,ltNot 33554432 x.Reserve];rcases List.eq_nil_or_concat pre with rfl | ⟨q,y,rfl⟩
  ·simp only [List.length_nil,Int.natCast_zero,List.getLast?_nil,ordL];rw [decide_eq_false (by omega:¬(0:Int)<0)];cases nmB x.Name<;>cases decide (1≤x.Units)<;>cases decide (x.Units≤1048576)<;>cases decide (0≤x.Reserve)<;>cases decide (x.Reserve≤33554432)<;>rfl
  ·rw [List.concat_eq_append] at h ⊢;have hq:q.length+1≤1000:=by rw [h] at hl; simp at hl; omega
   rw [decide_eq_true (by simp:(0:Int)<(((q++[y]).length:Nat):Int)),show wr64 ((((q++[y]).length:Nat):Int)-1)=((q.length:Nat):Int) by rw [wrIn (by simp<;>omega) (by simp<;>omega)]; simp,at_len (k:=q.length) (a:=q) (x:=y) (b:=x::r) (by rw [h]; simp) rfl,List.getLast?_concat];simp only [cond_true,Option.bind_some,ordL];cases nmB x.Name<;>cases slt y.Name x.Name<;>cases decide (1≤x.Units)<;>cases decide (x.Units≤1048576)<;>cases decide (0≤x.Reserve)<;>cases decide (x.Reserve≤33554432)<;>rfl
 unfold f32n2;rw [at_len h rfl];simp only [Option.bind_some,h3];cases inL x&&ordL pre.getLast? x<;>rfl
theorem f32n4_at{a:AA}(hl:a.Lots.length≤1000):∀(r pre:List AL)(f:Nat),a.Lots=pre++r→r.length<f→f32n4 f a ((pre.length:Nat):Int)=some (bif okL pre.getLast? r then .exit0 else .ret)
 | _,_,0,_,h=>absurd h (Nat.not_lt_zero _)
 | [],pre,f+1,h,_=>by rw [f32n4,decide_eq_false (by rw [h]; simp),cond_false]; rfl
 | x::r,pre,f+1,h,hf=>by
  have hp:pre.length<a.Lots.length:=by rw [h]; simp
  have ih:=f32n4_at hl r (pre++[x]) f (by rw [h]; simp) (by simpa using hf);rw [List.length_append,List.getLast?_concat] at ih;rw [f32n4,decide_eq_true (by omega),cond_true,f32n2_eq h hl,okL];cases inL x&&ordL pre.getLast? x with
  | false=>rfl
  | true =>
   simp only [cond_true,Option.bind_some,Bool.true_and];rw [wrSucc (by omega)];exact ih
theorem f32w_eq{a:AA}(hl:a.Lots.length≤1000):∀(l:List AB)(v:Int),f32n6L a l v=some (bif l.all (bidB a.Lots) then .exit2 else .ret)
 | [],_=>rfl
 | b::r,v=>by
  rw [f32n6L,f47_eq,List.all_cons,f32w_eq hl r,bidB];simp only [Option.bind_some];rcases f17_eq hl b.Lot with ⟨j,x,h1,_,h3⟩|⟨h1,h3⟩
  ·rw [h1,h3];simp only [Option.bind_some];rw [decide_eq_false (by omega)];cases gdB b<;>rfl
  ·rw [h1,h3];cases gdB b<;>rfl
theorem f32_eq(a:AA):f32 a=some (bif okA a then 0 else 8):=by
 unfold f32 f32n0 okA;rw [ltNot,show decide ((16:Int)<(a.Lots.length:Int))=_ from lenD a.Lots.length 16,show decide ((100:Int)<(a.Bids.length:Int))=_ from lenD a.Bids.length 100];cases decide (a.Rule≤2) with
 | false=>rfl
 | true =>
  by_cases hl:a.Lots.length≤16
  ·rw [decide_eq_true hl]
   by_cases hb:a.Bids.length≤100
   ·rw [decide_eq_true hb];have h1:f32n1 a=some (bif okL none a.Lots then .norm else .ret):=by
     unfold f32n1;have:=f32n4_at (a:=a) (by omega) a.Lots [] FUEL rfl (Qaj (by omega));rw [show (((([]:List AL).length:Nat)):Int)=0 from rfl,List.getLast?_nil] at this;rw [this];cases okL none a.Lots<;>rfl
    rw [h1];have h2:f32n5 a=some (bif a.Bids.all (bidB a.Lots) then .norm else .ret):=by
     unfold f32n5;rw [f32n6_run a (Qao (by omega)),f32w_eq (by omega)];cases a.Bids.all (bidB a.Lots)<;>rfl
    rw [h2];cases okL none a.Lots<;>cases a.Bids.all (bidB a.Lots)<;>rfl
   ·rw [decide_eq_false hb]; rfl
  ·rw [decide_eq_false hl]; rfl

abbrev sAt(i:Nat)(b:AB):SH:=⟨(i:Int),0,b⟩
theorem f66_eq{a:AA}{i j:Nat}{b c:AB}(hi:a.Bids[i]?=some b)(hj:a.Bids[j]?=some c):f66 a (i:Int) (j:Int)=some (bef (sAt i b) (sAt j c)):=by
 unfold f66 f66n0 bef;rw [Qaq,Qaq,hi,hj];simp only [Option.bind_some];cases decide (c.Price<b.Price)<;>cases decide (b.Price=c.Price)<;>rfl
theorem bid_lot{a:AA}(hv:Vl a){i:Nat}{b:AB}(hi:a.Bids[i]?=some b):∃(j:Nat) (l:AL),f17 a.Lots b.Lot=some (j:Int)∧at? a.Lots (j:Int)=some l∧l∈a.Lots∧b.Lot=l.Name:=by
 obtain ⟨⟨x,hx,hn⟩,_⟩:=hv.bids b (List.mem_of_getElem? hi);have hl:=hv.nl;rcases f17_eq (ls:=a.Lots) (by omega) b.Lot with ⟨j,l,h1,h2,h3⟩|⟨_,h2⟩
 ·obtain ⟨k1,k2⟩:=lotN_mem h3;exact ⟨j,l,h1,h2,k1,k2.symm⟩
 ·rw [←hn,lotN_of hv.srt x hx] at h2; cases h2
theorem f65_eq{a:AA}{i j:Nat}{b:AB}{l:AL}(hi:a.Bids[i]?=some b)(h1:f17 a.Lots b.Lot=some (j:Int))(h2:at? a.Lots (j:Int)=some l):f65 a (i:Int)=some (decide (l.Reserve≤b.Price)):=by
 unfold f65 f65n0;rw [Qaq,hi];simp only [Option.bind_some,h1,h2]
theorem f48L_eq{a:AA}(hv:Vl a){i:Nat}{b:AB}(hi:a.Bids[i]?=some b):∀(r:List AB)(k:Nat)(n:Int),a.Bids.drop k=r→n≤1048576→1048576*r.length≤n+1000000000 →
  f48n2L (i:Int) a r n (k:Int)=some (.exit0 (n-sumU ((zs r k).filter fun t=>seq t.bid.Lot b.Lot&&bef t (sAt i b))))
 | [],k,n,_,_,_=>by rw [f48n2L,zs,List.filter_nil,sumU,Int.sub_zero]
 | c::r,k,n,hd,h1,h2=>by
  have hk:=dropAt hd;have hkc:a.Bids[k]?=some c:=by rw [←Qaq]; exact hk.1
  have hc:=hv.bids c (List.mem_of_getElem? hkc);rw [List.length_cons] at h2;rw [f48n2L,Qaq,hi,zs,List.filter_cons];simp only [Option.bind_some,f66_eq hkc hi];rw [show (k:Int)+1=((k+1:Nat):Int) by omega];show _=some (f48n2O.exit0 (n-sumU (if (seq c.Lot b.Lot&&bef (sAt k c) (sAt i b))=true then _ else _)));cases seq c.Lot b.Lot with
  | false=>rw [cond_false,f48L_eq hv hi r (k+1) n hk.2.2 h1 (by omega)]; rfl
  | true =>
   cases bef (sAt k c) (sAt i b) with
   | false=>rw [cond_true,cond_false,f48L_eq hv hi r (k+1) n hk.2.2 h1 (by omega)]; rfl
   | true =>
    rw [cond_true,cond_true,show wr64 (n-c.Units)=n-c.Units from wrIn (by omega) (by omega),f48L_eq hv hi r (k+1) _ hk.2.2 (by omega) (by omega),Bool.and_self,if_pos rfl,sumU];have e:∀X:Int,n-c.Units-X=n-(c.Units+X):=fun X=>by omega
    rw [e]
theorem mxI_eq(a b:Int):mxI a b=max a b:=by
 unfold mxI
 by_cases h:a<b
 ·first | rw [decide_eq_true h,cond_true]; omega | rw [decide_eq_false (by omega),cond_false]; omega
 ·first | rw [decide_eq_false h,cond_false]; omega | (by_cases h2:b<a<;>simp [h2]<;>omega)
theorem f48_eq{a:AA}(hv:Vl a){i:Nat}{b:AB}(hi:a.Bids[i]?=some b):f48 a (i:Int)=some (Gs a (sAt i b)):=by
 obtain ⟨j,l,h1,h2,hl,hn⟩:=bid_lot hv hi;have hnb:=hv.nb;have hll:=hv.lots l hl;rw [Gs_lot hv hl (s:=sAt i b) hn];unfold f48 f48n0 f48n1;rw [f65_eq hi h1 h2,Qaq,hi];simp only [Option.bind_some,h1,h2];unfold gets;show Option.bind (bif decide (l.Reserve≤b.Price) then _ else _) _=some (bif decide (l.Reserve≤b.Price) then _ else _);cases decide (l.Reserve≤b.Price) with
 | false=>rfl
 | true =>
  have:=f48L_eq hv hi a.Bids 0 l.Units rfl hll.2.2.1 (by omega);rw [show ((0:Nat):Int)=0 from rfl] at this;rw [cond_true,cond_true,f48n2_run (i:Int) a l.Units (Qao (by omega)),this];simp only [Option.bind_some,mnI_eq,mxI_eq];rfl

structure InvA (a:AA) (l:AL) (own:Int) (k:Nat) (least first:Int):Prop where
 l1:least≤own
 l2:∀s∈won a.Bids l,s.index<k→least≤s.bid.Price
 l3:least=own∨∃s∈won a.Bids l,least=s.bid.Price
 f : (first = -1 ∧ ∀ s ∈ Z a.Bids, rk l s = true → gets a.Bids l s < s.bid.Units → (k : Int) ≤ s.index) ∨
  (∃(j:Nat) (c:AB),a.Bids[j]?=some c∧first=(j:Int)∧j<k∧rk l (sAt j c)=true∧gets a.Bids l (sAt j c)<c.Units∧∀r∈Z a.Bids,rk l r=true→gets a.Bids l r<r.bid.Units→r.index<(k:Int)→r=sAt j c∨bef (sAt j c) r=true)
theorem Z_eq{bs:List AB}{s:SH}(hs:s∈Z bs){k:Nat}{c:AB}(hk:bs[k]?=some c)(h:s.index=(k:Int)):s=sAt k c:=Z_inj hs (Z_at hk) h
theorem inv_step{a:AA}(hv:Vl a){l:AL}(hl:l∈a.Lots){i k:Nat}{b c:AB}{least first:Int}(hi:a.Bids[i]?=some b)(hn:b.Lot=l.Name)(hk:a.Bids[k]?=some c)(I:InvA a l b.Price k least first) :
  ∃least' first',f49n2 (i:Int) least first (k:Int) a=some (.norm least' first')∧InvA a l b.Price (k+1) least' first':=by
 have hz:=Z_at hk;have keep:rk l (sAt k c)=false→InvA a l b.Price (k+1) least first:=fun hr=>by
  have hne:∀s∈Z a.Bids,rk l s=true→s.index≠(k:Int):=fun s hs h e=>by
   rw [Z_eq hs hk e,hr] at h; cases h
  refine ⟨I.l1,fun s hs h=>?_,I.l3,?_⟩
  ·obtain ⟨m1,m2,_⟩:=won_mem.1 hs;have:=hne s m1 m2;exact I.l2 s hs (by omega)
  ·rcases I.f with ⟨e,h⟩|⟨j,d,h1,h2,h3,h4,h5,h6⟩
   ·refine .inl ⟨e,fun s hs hr hg=>?_⟩;have:=h s hs hr hg;have:=hne s hs hr;omega
   ·refine .inr ⟨j,d,h1,h2,by omega,h4,h5,fun r hr q1 q2 q3=>?_⟩;have:=hne r hr q1;exact h6 r hr q1 q2 (by omega)
 unfold f49n2;rw [Qaq,Qaq,hk,hi];simp only [Option.bind_some];cases hs:seq c.Lot b.Lot with
 | false =>
  refine ⟨least,first,rfl,keep ?_⟩
  rw [←Bool.not_eq_true,rk_iff]
  rintro ⟨e,_⟩
  have e:c.Lot=l.Name:=e;rw [e,hn,seq_refl] at hs; cases hs
 | true =>
  obtain ⟨j0,l0,q1,q2,q3,q4⟩:=bid_lot hv hk;have hcl:c.Lot=l.Name:=(seq_iff.1 hs).trans hn;have el:l0=l:=by
   have h1:=lotN_of hv.srt l0 q3;rw [←q4,hcl,lotN_of hv.srt l hl] at h1;exact (Option.some.inj h1).symm
  subst el;rw [cond_true,f65_eq hk q1 q2];simp only [Option.bind_some];cases hres:decide (l0.Reserve≤c.Price) with
  | false =>
   refine ⟨least,first,rfl,keep ?_⟩
   rw [←Bool.not_eq_true,rk_iff]
   rintro ⟨_,e⟩
   exact absurd e (of_decide_eq_false hres)
  | true =>
   have hr:rk l0 (sAt k c)=true:=rk_iff.2 ⟨hcl,of_decide_eq_true hres⟩;have hG:f48 a (k:Int)=some (gets a.Bids l0 (sAt k c)):=by rw [f48_eq hv hk,Gs_lot hv hl (s:=sAt k c) hcl]
   have hgr:=gets_rng (bs:=a.Bids) (l:=l0) (s:=sAt k c) (hv.bids c (List.mem_of_getElem? hk)).2.1;have h3:f49n3 (i:Int) least first (k:Int) a=some (.norm (bif decide (0<gets a.Bids l0 (sAt k c)) then min least c.Price else least)):=by
    unfold f49n3;rw [hG,Qaq,hk];simp only [Option.bind_some,mnI_eq];cases decide (0<gets a.Bids l0 (sAt k c))<;>rfl
   have h4:∀v,f49n4 (i:Int) v first (k:Int) a=some (.norm (bif decide (gets a.Bids l0 (sAt k c)<c.Units) then (bif decide (first<0) then true else match a.Bids[first.toNat]? with | some d=>bef (sAt k c) (sAt first.toNat d) | none=>false) else false)):=fun v=>by
    unfold f49n4;rw [hG,Qaq,hk];simp only [Option.bind_some];cases decide (gets a.Bids l0 (sAt k c)<c.Units) with
    | false=>rfl
    | true =>
     rcases I.f with ⟨e,_⟩|⟨j,d,h1,h2,_⟩
     ·subst e; rfl
     ·subst h2;rw [decide_eq_false (by omega:¬(j:Int)<0),f66_eq hk h1,Int.toNat_natCast,h1]; rfl
   rw [cond_true,h3];simp only [Option.bind_some,h4];generalize hle:(bif decide (0<gets a.Bids l0 (sAt k c)) then min least c.Price else least)=least';generalize hbe:(bif decide (gets a.Bids l0 (sAt k c)<c.Units) then (bif decide (first<0) then true else match a.Bids[first.toNat]? with | some d=>bef (sAt k c) (sAt first.toNat d) | none=>false) else false)=be
   have J:least'≤b.Price∧(∀s∈won a.Bids l0,s.index<((k+1:Nat):Int)→least'≤s.bid.Price)∧(least'=b.Price∨∃s∈won a.Bids l0,least'=s.bid.Price):=by
    by_cases hp:0<gets a.Bids l0 (sAt k c)
    ·rw [decide_eq_true hp,cond_true] at hle;have hw:sAt k c∈won a.Bids l0:=won_mem.2 ⟨hz,hr,by omega⟩;have i1:=I.l1;refine ⟨by omega,fun s hs h=>?_,?_⟩
     ·by_cases e:s.index=(k:Int)
      ·have:=Z_eq (won_mem.1 hs).1 hk e;rw [this];show least'≤c.Price;omega
      ·have:=I.l2 s hs (by omega);omega
     ·by_cases hc:least≤c.Price
      ·rw [show least'=least by omega]; exact I.l3
      ·exact .inr ⟨_,hw,by show least'=c.Price; omega⟩
    ·rw [decide_eq_false hp,cond_false] at hle;subst hle;refine ⟨I.l1,fun s hs h=>?_,I.l3⟩;have:s.index≠(k:Int):=fun e=>by
      have h0:=(won_mem.1 hs).2.2;rw [Z_eq (won_mem.1 hs).1 hk e] at h0;omega
     exact I.l2 s hs (by omega)
   cases be with
   | true =>
    refine ⟨least',(k:Int),rfl,J.1,J.2.1,J.2.2,.inr ⟨k,c,hk,rfl,Nat.lt_succ_self _,hr,?_,fun r hr1 q1 q2 q3=>?_⟩⟩
    ·cases hx:decide (gets a.Bids l0 (sAt k c)<c.Units) with
     | true=>exact of_decide_eq_true hx
     | false=>rw [hx] at hbe; cases hbe
    ·by_cases e:r.index=(k:Int)
     ·exact .inl (Z_eq hr1 hk e)
     ·refine .inr ?_;rcases I.f with ⟨_,h⟩|⟨j,d,h1,h2,h3',h4',h5,h6⟩
      ·have:=h r hr1 q1 q2; omega
      ·subst h2;have hb:bef (sAt k c) (sAt j d)=true:=by
        cases hx:decide (gets a.Bids l0 (sAt k c)<c.Units) with
        | false=>rw [hx] at hbe; cases hbe
        | true =>
         rw [hx,cond_true,decide_eq_false (by omega:¬(j:Int)<0),cond_false,Int.toNat_natCast,h1] at hbe;exact hbe
       rcases h6 r hr1 q1 q2 (by omega) with rfl | h
       ·exact hb
       ·exact bef_tr hb h
   | false =>
    refine ⟨least',first,rfl,J.1,J.2.1,J.2.2,?_⟩
    by_cases hx:gets a.Bids l0 (sAt k c)<c.Units
    ·rw [decide_eq_true hx,cond_true] at hbe;rcases I.f with ⟨e,h⟩|⟨j,d,h1,h2,h3',h4',h5,h6⟩
     ·subst e; cases hbe
     ·subst h2;rw [decide_eq_false (by omega:¬(j:Int)<0),cond_false,Int.toNat_natCast,h1] at hbe;refine .inr ⟨j,d,h1,rfl,by omega,h4',h5,fun r hr1 q1 q2 q3=>?_⟩
      by_cases e:r.index=(k:Int)
      ·rw [Z_eq hr1 hk e];exact .inr (bef_tot (by show (k:Int)≠(j:Int); omega) hbe)
      ·exact h6 r hr1 q1 q2 (by omega)
    ·rcases I.f with ⟨e,h⟩|⟨j,d,h1,h2,h3',h4',h5,h6⟩
     ·refine .inl ⟨e,fun s hs q1 q2=>?_⟩;have:=h s hs q1 q2;have:s.index≠(k:Int):=fun e=>by
       rw [Z_eq hs hk e] at q2;exact hx q2
      omega
     ·refine .inr ⟨j,d,h1,h2,by omega,h4',h5,fun r hr1 q1 q2 q3=>?_⟩;have:r.index≠(k:Int):=fun e=>by
       rw [Z_eq hr1 hk e] at q2;exact hx q2
      exact h6 r hr1 q1 q2 (by omega)
theorem f49n5_at{a:AA}(hv:Vl a){l:AL}(hl:l∈a.Lots){i:Nat}{b:AB}(hi:a.Bids[i]?=some b)(hn:b.Lot=l.Name):∀(r:List AB)(f k:Nat)(least first:Int),a.Bids.drop k=r→r.length<f→k≤a.Bids.length→InvA a l b.Price k least first →
  ∃least' first',f49n5 f (i:Int) a least first (k:Int)=some (.exit0 least' first')∧InvA a l b.Price a.Bids.length least' first'
 | _,0,_,_,_,_,h,_,_=>absurd h (Nat.not_lt_zero _)
 | [],f+1,k,least,first,hd,_,hk,I=>by
  have:=Qac hd;rw [f49n5,decide_eq_false (by omega),cond_false];exact ⟨_,_,rfl,by rw [show a.Bids.length=k by omega]; exact I⟩
 | c::r,f+1,k,least,first,hd,hf,_,I=>by
  have hk:=dropAt hd;have hnb:=hv.nb;obtain ⟨l1,f1,e,I1⟩:=inv_step hv hl hi hn (by rw [←Qaq]; exact hk.1) I;rw [f49n5,decide_eq_true (by have:=hk.2.1; omega),cond_true,e];simp only [Option.bind_some];rw [wrSucc (by have:=hk.2.1; omega)];exact f49n5_at hv hl hi hn r f (k+1) l1 f1 hk.2.2 (by simpa using hf) hk.2.1 I1
theorem f49_eq{a:AA}(hv:Vl a)(h0:0≤a.Rule){l:AL}(hl:l∈a.Lots){i:Nat}{b:AB}(hi:a.Bids[i]?=some b)(hw:sAt i b∈won a.Bids l):f49 a (i:Int)=some (prc a.Rule a.Bids l (sAt i b)):=by
 have hnb:=hv.nb;obtain ⟨m1,m2,m3⟩:=won_mem.1 hw;have hn:b.Lot=l.Name:=(rk_iff.1 m2).1;unfold f49 f49n0;rw [Qaq,hi]
 by_cases hr0:a.Rule=0
 ·rw [decide_eq_true hr0];unfold prc;rw [hr0]; rfl
 ·rw [decide_eq_false hr0,cond_false];simp only [Option.bind_some];obtain ⟨least,first,e,I⟩:=f49n5_at hv hl hi hn a.Bids FUEL 0 b.Price (-1) rfl (Qaj (by omega)) (Nat.zero_le _) ⟨Int.le_refl _,fun s hs h=>by have:=(Z_rng (won_mem.1 hs).1).1; omega,.inl rfl,.inl ⟨rfl,fun s hs _ _=>(Z_rng hs).1⟩⟩
  rw [show ((0:Nat):Int)=0 from rfl] at e;have h1:f49n1 (i:Int) b a=some (.norm least first):=by unfold f49n1; rw [e]; rfl
  rw [h1];simp only [Option.bind_some];have hidx:∀s∈Z a.Bids,s.index<(a.Bids.length:Int):=fun s hs=>(Z_rng hs).2
  by_cases hr1:a.Rule=1
  ·rw [decide_eq_true hr1];have hlow:lowA a.Bids l=least:=low_char hw (by
    rcases I.l3 with h | ⟨s,hs,h⟩
    ·exact ⟨_,hw,h⟩
    ·exact ⟨s,hs,h⟩) fun s hs=>I.l2 s hs (hidx s (won_mem.1 hs).1)
   unfold prc;rw [hr1,hlow]; rfl
  ·rw [decide_eq_false hr1,cond_false];have hr2:a.Rule=2:=by have:=hv.rule; omega
   have hp:prc a.Rule a.Bids l (sAt i b)=rejA a.Bids l:=by unfold prc; rw [hr2]; rfl
   rw [hp];have hrej:rejA a.Bids l=rej l.Reserve (rkG a.Bids l) (rkd a.Bids l):=rfl;rcases I.f with ⟨ef,h⟩|⟨j,c,k1,k2,k3,k4,k5,k6⟩
   ·obtain ⟨j,l0,q1,q2,q3,q4⟩:=bid_lot hv hi;have el:l0=l:=by
     have h1:=lotN_of hv.srt l0 q3;rw [←q4,hn,lotN_of hv.srt l hl] at h1;exact (Option.some.inj h1).symm
    subst el;rw [decide_eq_true (by omega),cond_true,q1];simp only [Option.bind_some,q2];rcases rej_mem l0.Reserve (rkG a.Bids l0) (rkd a.Bids l0) with ⟨e2,_⟩|⟨r,hr,hg,_⟩
    ·rw [hrej,e2]
    ·obtain ⟨n1,n2⟩:=Qbh.1 hr;rw [rkG_eq n2] at hg;have:=h r n1 n2 hg;have:=hidx r n1;omega
   ·subst k2;rw [decide_eq_false (by omega),cond_false,Qaq,k1];simp only [Option.bind_some];have hc:=Z_at k1;have hge:=rejA_ge hc k4 k5;rcases rej_mem l.Reserve (rkG a.Bids l) (rkd a.Bids l) with ⟨e2,h2⟩|⟨r,hr,hg,e2⟩
    ·have:=h2 (sAt j c) (Qbh.2 ⟨hc,k4⟩);rw [rkG_eq k4] at this;have k5':gets a.Bids l (sAt j c)<(sAt j c).bid.Units:=k5;omega
    ·obtain ⟨n1,n2⟩:=Qbh.1 hr;rw [rkG_eq n2] at hg;have hge':c.Price≤rejA a.Bids l:=hge;rw [hrej,e2] at hge' ⊢;rcases k6 r n1 n2 hg (hidx r n1) with rfl | hb
     ·rfl
     ·have:=bef_iff.1 hb;have h3:(sAt j c).bid.Price=c.Price:=rfl;rw [show c.Price=r.bid.Price by omega]
end Go.Proofs.Ythpceddjepbamaa
namespace Go.Proofs.Ythpceddjepbamaa
set_option linter.unusedVariables false
set_option linter.unusedSimpArgs false
open Go.RowKit
theorem f25n2_at{a:AA}(hv:Vl a)(h0:0≤a.Rule):∀(r:List AB)(f k:Nat)(o:List AW),a.Bids.drop k=r→r.length<f→o.length+r.length≤1000→f25n2 f a (k:Int) o=some (.exit0 (o++(zs r k).filterMap (aw a)))
 | _,0,_,_,_,h,_=>absurd h (Nat.not_lt_zero _)
 | [],f+1,k,o,hd,_,_=>by
  have:=Qac hd;rw [f25n2,decide_eq_false (by omega),cond_false,zs,List.filterMap_nil,List.append_nil]
 | b::r,f+1,k,o,hd,hf,ho=>by
  have hk:=dropAt hd;have hnb:=hv.nb;have hkb:a.Bids[k]?=some b:=by rw [←Qaq]; exact hk.1
  obtain ⟨j,l,q1,q2,hl,hn⟩:=bid_lot hv hkb;have hz:=Z_at hkb;have hG:=Gs_lot hv hl (s:=sAt k b) hn;have hg:=gets_rng (bs:=a.Bids) (l:=l) (s:=sAt k b) (hv.bids b (List.mem_of_getElem? hkb)).2.1;rw [List.length_cons] at ho;rw [f25n2,decide_eq_true (by have:=hk.2.1; omega),cond_true,f48_eq hv hkb,zs,List.filterMap_cons];simp only [Option.bind_some];rw [wrSucc (by have:=hk.2.1; omega),hG];have ea:aw a (sAt k b)=bif decide (gets a.Bids l (sAt k b)=0) then none else some ⟨(k:Int),gets a.Bids l (sAt k b),prc a.Rule a.Bids l (sAt k b)⟩:=by
   unfold aw;rw [show (sAt k b).bid.Lot=l.Name from hn,lotN_of hv.srt l hl]
  have ea':aw a ⟨(k:Int),0,b⟩=_:=ea;rw [ea']
  by_cases hp:gets a.Bids l (sAt k b)=0
  ·rw [decide_eq_false (by omega),cond_false,decide_eq_true hp,cond_true,f25n2_at hv h0 r f (k+1) o hk.2.2 (by simpa using hf) (by omega)];rw [show ((k+1:Nat):Int)=(k:Int)+1 by omega]
  ·have hr:=gets_rk (bs:=a.Bids) (l:=l) (s:=sAt k b) hn hp;rw [decide_eq_true (by omega),cond_true,decide_eq_false hp,cond_false,f49_eq hv h0 hl hkb (won_mem.2 ⟨hz,hr,hp⟩)];simp only [Option.bind_some];rw [req,Qaw (by omega) (by omega),cond_true,f25n2_at hv h0 r f (k+1) _ hk.2.2 (by simpa using hf) (by rw [List.length_append]; simp; omega),List.append_assoc,show ((k+1:Nat):Int)=(k:Int)+1 by omega];rfl
theorem f25_eq{a:AA}(h0:0≤a.Rule):f25 a=some (bif okA a then (awS a,0) else ([],8)):=by
 unfold f25 f25n0;rw [f32_eq];cases h:okA a with
 | false=>rfl
 | true =>
  have hv:=okA_vl h;have hnb:=hv.nb;have:=f25n2_at hv h0 a.Bids FUEL 0 [] rfl (Qaj (by omega)) (by simp; omega);rw [show ((0:Nat):Int)=0 from rfl,List.nil_append] at this;have h1:f25n1 a=some (.norm (awS a)):=by unfold f25n1; rw [this]; rfl
  simp only [cond_true,Option.bind_some,decide_true,h1]

theorem f26L_eq{a:AA}(hv:Vl a){l:AL}(hl:l∈a.Lots){n:Int}(hn:at? a.Lots n=some l)(bh:List AW×Int)(bl:List Int):∀(L:List SH)(v k:Int),(∀s∈L,s∈Z a.Bids)→v≤1048576→1048576*L.length≤v+1000000000 →
  f26n4L bh n a bl (L.filterMap (aw a)) v k=some (.exit2 (v-sumG (gets a.Bids l) (L.filter fun s=>seq s.bid.Lot l.Name)))
 | [],v,k,_,_,_=>by rw [List.filterMap_nil,f26n4L,List.filter_nil,sumG,Int.sub_zero]
 | s::r,v,k,h,h1,h2=>by
  have hs:=h s List.mem_cons_self;have hr:∀t∈r,t∈Z a.Bids:=fun t ht=>h t (List.mem_cons_of_mem _ ht);have hg:=Gs_rng hv hs;rw [List.length_cons] at h2;rw [List.filterMap_cons,List.filter_cons];have hGs:seq s.bid.Lot l.Name=true→Gs a s=gets a.Bids l s:=fun e=>Gs_lot hv hl (seq_iff.1 e);cases ha:aw a s with
  | none =>
   have h0:Gs a s=0:=by unfold Gs; rw [ha]
   simp only;cases e:seq s.bid.Lot l.Name with
   | false=>rw [f26L_eq hv hl hn bh bl r v k hr h1 (by omega)]; rfl
   | true=>rw [f26L_eq hv hl hn bh bl r v k hr h1 (by omega),if_pos rfl,sumG,←hGs e,h0,Int.zero_add]
  | some x =>
   have h0:Gs a s=x.Units:=by unfold Gs; rw [ha]
   simp only;rw [f26n4L,aw_bid ha,at_Z hs,hn];simp only [Option.bind_some];cases e:seq s.bid.Lot l.Name with
   | false=>rw [cond_false,f26L_eq hv hl hn bh bl r v (k+1) hr h1 (by omega)]; rfl
   | true =>
    have e3:∀X:Int,v-x.Units-X=v-(x.Units+X):=fun X=>by omega
    rw [cond_true,show wr64 (v-x.Units)=v-x.Units from wrIn (by omega) (by omega),f26L_eq hv hl hn bh bl r _ (k+1) hr (by omega) (by omega),if_pos rfl,sumG,←hGs e,h0,e3]
theorem f26n5_at{a:AA}(hv:Vl a):∀(r:List AL)(f k:Nat)(o:List Int),a.Lots.drop k=r→r.length<f→o.length+r.length≤100→f26n5 f (awS a,0) a (k:Int) o=some (.exit0 (o++r.map (leftL a.Bids)))
 | _,0,_,_,_,h,_=>absurd h (Nat.not_lt_zero _)
 | [],f+1,k,o,hd,_,_=>by
  have:=Qac hd;rw [f26n5,decide_eq_false (by omega),cond_false,List.map_nil,List.append_nil]
 | l::r,f+1,k,o,hd,hf,ho=>by
  have hk:=dropAt hd;have hnl:=hv.nl;have hnb:=hv.nb;have hl:l∈a.Lots:=List.mem_of_mem_drop (hd ▸ List.mem_cons_self);have hll:=hv.lots l hl;rw [List.length_cons] at ho hf;have hlen:(Z a.Bids).length=a.Bids.length:=by unfold Z; rw [zs_len]
  have h2:f26n2 (awS a,0) (k:Int) a o=some (.norm (o++[leftL a.Bids l])):=by
   unfold f26n2 f26n3;rw [hk.1];simp only [Option.bind_some];have:=f26L_eq hv hl hk.1 (awS a,0) o (Z a.Bids) l.Units 0 (fun _ h=>h) hll.2.2.1 (by omega);rw [f26n4_run (awS a,0) (k:Int) a o l.Units (Qao (by show (awS a).length≤_; have:=awS_len a; omega)),show f26n4L (awS a,0) (k:Int) a o (awS a,(0:Int)).1 l.Units 0=_ from this,sum_lot];simp only [Option.bind_some];rw [req,Qaw (by omega) (by omega),cond_true,show l.Units-(l.Units-leftL a.Bids l)=leftL a.Bids l by omega]
  rw [f26n5,decide_eq_true (by have:=hk.2.1; omega),cond_true,h2];simp only [Option.bind_some];rw [wrSucc (by have:=hk.2.1; omega),f26n5_at hv r f (k+1) _ hk.2.2 (by omega) (by rw [List.length_append]; simp; omega),List.map_cons,List.append_assoc]; rfl
theorem f26_eq{a:AA}(h0:0≤a.Rule):f26 a=some (bif okA a then (leftS a,0) else ([],8)):=by
 unfold f26 f26n0;rw [f25_eq h0];cases h:okA a with
 | false=>rfl
 | true =>
  have hv:=okA_vl h;have hnl:=hv.nl;have:=f26n5_at hv a.Lots FUEL 0 [] rfl (Qaj (by omega)) (by simp; omega);rw [show ((0:Nat):Int)=0 from rfl,List.nil_append] at this;have h1:f26n1 (awS a,0) a=some (.norm (leftS a)):=by unfold f26n1; rw [this]; rfl
  simp only [cond_true,Option.bind_some,decide_true,h1]
theorem f27L_eq(bh:List AW×Int):∀(l:List AW)(n v:Int),(∀x∈l,0≤x.Units*x.Price∧x.Units*x.Price≤35184372088832)→0≤n→n+35184372088832*l.length≤9000000000000000000 →
  f27n2L bh l n v=some (.exit0 (n+sumW (fun _=>true) l))
 | [],n,v,_,_,_=>by rw [f27n2L,sumW,Int.add_zero]
 | x::r,n,v,h,h0,hn=>by
  obtain ⟨h1,h2⟩:=h x List.mem_cons_self;rw [List.length_cons] at hn;rw [f27n2L,sumW,cond_true,show wr64 (x.Units*x.Price)=x.Units*x.Price from wrIn (by omega) (by omega),show wr64 (n+x.Units*x.Price)=n+x.Units*x.Price from wrIn (by omega) (by omega),f27L_eq bh r _ _ (fun y hy=>h y (List.mem_cons_of_mem _ hy)) (by omega) (by omega),Int.add_assoc]
theorem f27_eq{a:AA}(h0:0≤a.Rule):f27 a=some (bif okA a then (procS a,0) else (0,8)):=by
 unfold f27 f27n0 f27n1;rw [f25_eq h0];cases h:okA a with
 | true =>
  have hv:=okA_vl h;simp only [cond_true,Option.bind_some];rw [f27n2_run (awS a,0) 0 (Qao (by show (awS a).length≤_; have:=awS_len a; have:=hv.nb; omega)),show f27n2L (awS a,0) (awS a,(0:Int)).1 0 0=_ from f27L_eq (awS a,0) (awS a) 0 0 (fun x hx=>(aw_all hv x hx).2) (Int.le_refl _) (aw_fit hv),Int.zero_add]; rfl
 | false =>
  simp only [cond_false,Option.bind_some];rw [f27n2_run ([],8) 0 (Qao (by simp))]; rfl
theorem f28L_eq{a:AA}(bh:List AW×Int)(m:ByteArray):∀(l:List AW)(n v:Int),(∀x∈l,(∃b,at? a.Bids x.Bid=some b)∧0≤x.Units*x.Price∧x.Units*x.Price≤35184372088832)→0≤n→n+35184372088832*l.length≤9000000000000000000 →
  f28n2L m bh a l n v=some (.exit0 (n+sumW (fun x=>seq (mbr a.Bids x) m) l))
 | [],n,v,_,_,_=>by rw [f28n2L,sumW,Int.add_zero]
 | x::r,n,v,h,h0,hn=>by
  obtain ⟨⟨b,hb⟩,h1,h2⟩:=h x List.mem_cons_self;have h':∀y∈r,(∃b,at? a.Bids y.Bid=some b)∧0≤y.Units*y.Price∧y.Units*y.Price≤35184372088832:=fun y hy=>h y (List.mem_cons_of_mem _ hy);rw [List.length_cons] at hn;rw [f28n2L,hb,sumW,mbr,hb];simp only [Option.bind_some];cases seq b.Member m with
  | true=>rw [cond_true,cond_true,show wr64 (x.Units*x.Price)=x.Units*x.Price from wrIn (by omega) (by omega),show wr64 (n+x.Units*x.Price)=n+x.Units*x.Price from wrIn (by omega) (by omega),f28L_eq bh m r _ _ h' (by omega) (by omega),Int.add_assoc]
  | false=>rw [cond_false,cond_false,f28L_eq bh m r _ _ h' h0 (by omega),Int.zero_add]
theorem f28_eq{a:AA}(h0:0≤a.Rule)(m:ByteArray):f28 a m=some (bif okA a then (paidS a m,0) else (0,8)):=by
 unfold f28 f28n0 f28n1;rw [f25_eq h0];cases h:okA a with
 | true =>
  have hv:=okA_vl h;simp only [cond_true,Option.bind_some];rw [f28n2_run m (awS a,0) a 0 (Qao (by show (awS a).length≤_; have:=awS_len a; have:=hv.nb; omega)),show f28n2L m (awS a,0) a (awS a,(0:Int)).1 0 0=_ from f28L_eq (awS a,0) m (awS a) 0 0 (aw_all hv) (Int.le_refl _) (aw_fit hv),Int.zero_add]; rfl
 | false =>
  simp only [cond_false,Option.bind_some];rw [f28n2_run m ([],8) a 0 (Qao (by simp))]; rfl

theorem f29L_eq(bg:List AW):∀(r:List AW)(k:Nat),bg.drop k=r→f29n2L bg bg r (k:Int)=some .exit0
 | [],_,_=>rfl
 | x::r,k,hd=>by
  have hk:=dropAt hd;have he:Qb.eqb x x=true:=by unfold Qb.eqb; simp
  rw [f29n2L,hk.1];simp only [Option.bind_some];rw [he,cond_true,show (k:Int)+1=((k+1:Nat):Int) by omega];exact f29L_eq bg r (k+1) hk.2.2
theorem f29_eq{l:List AW}(h:l.length≤1000):f29 l l=some true:=by
 unfold f29 f29n0 f29n1;have:=f29L_eq l l 0 rfl;rw [show ((0:Nat):Int)=0 from rfl] at this;rw [decide_eq_true rfl,f29n2_run l l (Qao (by omega)),this]; rfl
theorem f30L_eq(bg:List Int):∀(r:List Int)(k:Nat),bg.drop k=r→f30n2L bg bg r (k:Int)=some .exit0
 | [],_,_=>rfl
 | x::r,k,hd=>by
  have hk:=dropAt hd;rw [f30n2L,hk.1];simp only [Option.bind_some,decide_true,cond_true];rw [show (k:Int)+1=((k+1:Nat):Int) by omega];exact f30L_eq bg r (k+1) hk.2.2
theorem f30_eq{l:List Int}(h:l.length≤1000):f30 l l=some true:=by
 unfold f30 f30n0 f30n1;have:=f30L_eq l l 0 rfl;rw [show ((0:Nat):Int)=0 from rfl] at this;rw [decide_eq_true rfl,f30n2_run l l (Qao (by omega)),this]; rfl
theorem f21a_eq(a:AA):∀(r:List AL)(k:Nat),a.Lots.drop k=r→f21n2L a a r (k:Int)=some .exit0
 | [],_,_=>rfl
 | x::r,k,hd=>by
  have hk:=dropAt hd;have he:Qa.eqb x x=true:=by unfold Qa.eqb; simp [seq_refl]
  rw [f21n2L,hk.1];simp only [Option.bind_some];rw [he,cond_true,show (k:Int)+1=((k+1:Nat):Int) by omega];exact f21a_eq a r (k+1) hk.2.2
theorem f21b_eq(a:AA):∀(r:List AB)(k:Nat),a.Bids.drop k=r→f21n4L a a r (k:Int)=some .exit2
 | [],_,_=>rfl
 | x::r,k,hd=>by
  have hk:=dropAt hd;have he:Qc.eqb x x=true:=by unfold Qc.eqb; simp [seq_refl]
  rw [f21n4L,hk.1];simp only [Option.bind_some];rw [he,cond_true,show (k:Int)+1=((k+1:Nat):Int) by omega];exact f21b_eq a r (k+1) hk.2.2
theorem f21_eq{a:AA}(h1:a.Lots.length≤1000)(h2:a.Bids.length≤1000):f21 a a=some true:=by
 unfold f21 f21n0 f21n1 f21n3;have e1:=f21a_eq a a.Lots 0 rfl;have e2:=f21b_eq a a.Bids 0 rfl;rw [show ((0:Nat):Int)=0 from rfl] at e1 e2;rw [decide_eq_true rfl,decide_eq_true rfl,decide_eq_true rfl,f21n2_run a a (Qao (by omega)),f21n4_run a a (Qao (by omega)),e1,e2]; rfl

theorem f22a(n:Int):∀(m f k:Nat)(l:List AL),k+m=l.length→m<f→l.length≤1000→∃r,f22r1n2 f n (k:Int) l=some (.exit0 r)
 | _,0,_,_,_,h,_=>absurd h (Nat.not_lt_zero _)
 | 0,f+1,k,l,h,_,_=>by
  rw [f22r1n2,decide_eq_false (by omega),cond_false]; exact ⟨l,rfl⟩
 | m+1,f+1,k,l,h,hf,hl=>by
  rw [f22r1n2,decide_eq_true (by omega),cond_true,at_in (by omega)];simp only [Option.bind_some];rw [wrSucc (by omega)];exact f22a n m f (k+1) _ (by rw [List.length_set]; omega) (by omega) (by rw [List.length_set]; exact hl)
theorem f22r1_ex(n:Int){l:List AL}(h:l.length≤1000):∃r,f22r1 n l=some r:=by
 obtain ⟨r,e⟩:=f22a n l.length FUEL 0 l (by omega) (Qaj (by omega)) h;rw [show ((0:Nat):Int)=0 from rfl] at e;obtain ⟨g,hg⟩:∃g,FUEL=g+1:=⟨FUEL-1,by have:=Qaj (n:=1) (by omega); omega⟩;refine ⟨r,?_⟩;unfold f22r1 f22r1n0 f22r1n1;rw [e];simp only [Option.bind_some];rw [hg]; rfl
theorem f22b(q:List AB)(n:Int):∀(m f k:Nat)(l:List AL),k+m=l.length→m<f→l.length≤1000→∃r,f22r2n2 f q n (k:Int) l=some (.exit0 r)
 | _,0,_,_,_,h,_=>absurd h (Nat.not_lt_zero _)
 | 0,f+1,k,l,h,_,_=>by
  rw [f22r2n2,decide_eq_false (by omega),cond_false]; exact ⟨l,rfl⟩
 | m+1,f+1,k,l,h,hf,hl=>by
  rw [f22r2n2,decide_eq_true (by omega),cond_true,at_in (by omega)];simp only [Option.bind_some];rw [wrSucc (by omega)];exact f22b q n m f (k+1) _ (by rw [List.length_set]; omega) (by omega) (by rw [List.length_set]; exact hl)
theorem f22c(q:List AL)(n:Int):∀(m f k:Nat)(l:List AB),k+m=l.length→m<f→l.length≤1000→∃r,f22r2n3 f q n (k:Int) l=some (.exit2 r)
 | _,0,_,_,_,h,_=>absurd h (Nat.not_lt_zero _)
 | 0,f+1,k,l,h,_,_=>by
  rw [f22r2n3,decide_eq_false (by omega),cond_false]; exact ⟨l,rfl⟩
 | m+1,f+1,k,l,h,hf,hl=>by
  rw [f22r2n3,decide_eq_true (by omega),cond_true,at_in (by omega)];simp only [Option.bind_some];rw [wrSucc (by omega)];exact f22c q n m f (k+1) _ (by rw [List.length_set]; omega) (by omega) (by rw [List.length_set]; exact hl)
theorem f22r2_ex(n:Int){l:List AL}{q:List AB}(h:l.length≤1000)(h2:q.length≤1000):∃r,f22r2 n l q=some r:=by
 obtain ⟨r,e⟩:=f22b q n l.length FUEL 0 l (by omega) (Qaj (by omega)) h;obtain ⟨r2,e2⟩:=f22c r n q.length FUEL 0 q (by omega) (Qaj (by omega)) h2;rw [show ((0:Nat):Int)=0 from rfl] at e e2;refine ⟨(r,r2),?_⟩;unfold f22r2 f22r2n0 f22r2n1;rw [e];simp only [Option.bind_some];rw [e2]; rfl

theorem f43_eq{l:List AL}(h:l.length≤1000):f43r1 l=some l:=by
 unfold f43r1 f43r1n0;rw [req,Qaw (by omega) (by omega)];cases l<;>rfl
theorem f14b_eq(n:Int){l:List AL}(h:l.length≤1000):f14r2 n l=some l:=by
 unfold f14r2 f14r2n0;rw [req,Qaw (by omega) (by omega)];cases l<;>rfl
theorem f46_eq{l:List AB}(h:l.length≤1000):f46r1 l=some l:=by
 unfold f46r1 f46r1n0;rw [req,Qaw (by omega) (by omega)];cases l<;>rfl
theorem f19_eq(n:Int){l:List AL}(h:l.length≤1000):f19r1 n l=some (bif okA ⟨n,l,[]⟩ then (0,n,l) else (2,0,[])):=by
 unfold f19r1 f19r1n0;rw [f43_eq h];simp only [Option.bind_some,f31_eq];cases okA ⟨n,l,[]⟩<;>rfl
theorem f20_eq(n:Int){l:List AL}(h:l.length≤1000):f20 n l=some (bif okA ⟨n,l,[]⟩ then (⟨n,l,[]⟩,0) else (⟨0,[],[]⟩,2)):=by
 unfold f20 f20n0;rw [f14b_eq n h];simp only [Option.bind_some,f32_eq];cases okA ⟨n,l,[]⟩<;>rfl
def bidR(a:AA)(b:AB):Int×AA:=bif okA a then (bif gdB b then (match lotN b.Lot a.Lots with
 | some _=>bif decide (a.Bids.length=100) then (22,⟨0,[],[]⟩) else (0,⟨a.Rule,a.Lots,a.Bids++[b]⟩)
 | none=>(6,⟨0,[],[]⟩)) else (2,⟨0,[],[]⟩)) else (8,⟨0,[],[]⟩)
theorem f23_eq{a:AA}(h1:a.Lots.length≤100)(h2:a.Bids.length≤200)(b:AB):f23r1 a.Rule b.Member b.Lot b.Units b.Price a.Lots a.Bids=some ((bidR a b).1,(bidR a b).2.Rule,(bidR a b).2.Lots,(bidR a b).2.Bids):=by
 unfold f23r1 f23r1n0 bidR;rw [f31_eq];cases h:okA a with
 | false=>rfl
 | true =>
  have hv:=okA_vl h;obtain ⟨i,hi⟩:=f44_eq hv.srt (by omega) b.Lot;simp only [cond_true,Option.bind_some,decide_true,hi,f45_eq];cases gdB b with
  | false=>rfl
  | true =>
   cases hl:lotN b.Lot a.Lots with
   | none=>rfl
   | some l =>
    by_cases hn:a.Bids.length=100
    ·simp only [Option.isSome_some,cond_true];rw [decide_eq_true hn,decide_eq_true (by omega)]; rfl
    ·simp only [Option.isSome_some,cond_true];rw [decide_eq_false hn,decide_eq_false (by omega),cond_false,f43_eq (by omega),f46_eq (by omega)];simp only [Option.bind_some];rw [req,Qaw (by omega) (by omega)]; rfl
theorem f24_eq{a:AA}(hg:grt a=false)(b:AB):f24 a b.Member b.Lot b.Units b.Price=some ((bidR a b).2,(bidR a b).1):=by
 have hg':=hg;unfold grt at hg';simp only [Bool.or_eq_false_iff,Bool.not_eq_false',decide_eq_true_eq] at hg';unfold f24 f24n0 bidR;rw [f32_eq];cases h:okA a with
 | false=>rfl
 | true =>
  have hv:=okA_vl h;have hnb:=hv.nb;simp only [cond_true,Option.bind_some,decide_true,f47_eq];cases gdB b with
  | false=>rfl
  | true =>
   rcases f17_eq (ls:=a.Lots) (by omega) b.Lot with ⟨j,x,h1,_,h3⟩|⟨h1,h3⟩
   ·rw [h1,h3];simp only [cond_true,Option.bind_some];rw [decide_eq_false (by omega),cond_false]
    by_cases hn:a.Bids.length=100
    ·rw [decide_eq_true hn,decide_eq_true (by omega)]; rfl
    ·rw [decide_eq_false hn,decide_eq_false (by omega),cond_false,f14_eq hg];simp only [Option.bind_some];rw [req,Qaw (by omega) (by omega)]; rfl
   ·rw [h1,h3]; rfl
theorem bidR_len{a:AA}(h1:a.Lots.length≤100)(h2:a.Bids.length≤200)(b:AB):(bidR a b).2.Lots.length≤1000∧(bidR a b).2.Bids.length≤1000:=by
 unfold bidR;cases okA a with
 | false=>exact ⟨by simp,by simp⟩
 | true =>
  cases gdB b with
  | false=>exact ⟨by simp,by simp⟩
  | true =>
   cases lotN b.Lot a.Lots with
   | none=>exact ⟨by simp,by simp⟩
   | some l =>
    cases decide (a.Bids.length=100) with
    | true=>exact ⟨by simp,by simp⟩
    | false=>exact ⟨by simp; omega,by simp; omega⟩
theorem lawMatches{Q:Prop}(a:AA)(b:AB)(h:Qd.ok a)(_:Q):f8 a b=some true:=by
 have h0:=h.1.u8.1;unfold f8 f8n0;rw [alive_t,f11_eq];cases hg:grt a with
 | true=>rfl
 | false =>
  have hg':=hg;unfold grt at hg';simp only [Bool.or_eq_false_iff,Bool.not_eq_false',decide_eq_true_eq] at hg';obtain ⟨g1,g2⟩:=hg';simp only [Option.bind_some,cond_false,cond_true,f14_eq hg];rw [f19_eq a.Rule (l:=a.Lots) (by omega),f20_eq a.Rule (l:=a.Lots) (by omega)];simp only [Option.bind_some];generalize hx:(bif okA ⟨a.Rule,a.Lots,[]⟩ then ((0:Int),a.Rule,a.Lots) else (2,0,[]))=x;generalize hy:(bif okA ⟨a.Rule,a.Lots,[]⟩ then ((⟨a.Rule,a.Lots,[]⟩:AA),(0:Int)) else (⟨0,[],[]⟩,2))=y;have hxy:y=(⟨x.2.1,x.2.2,[]⟩,x.1)∧x.2.2.length≤1000:=by
   subst hx hy;cases okA ⟨a.Rule,a.Lots,[]⟩ with
   | true=>exact ⟨rfl,by show a.Lots.length≤1000; omega⟩
   | false=>exact ⟨rfl,by simp⟩
  obtain ⟨rfl,hlx⟩:=hxy;have h1:f8n1 true x (⟨x.2.1,x.2.2,[]⟩,x.1) a b (a.Lots,a.Bids)=some (.norm true):=by
   unfold f8n1;rw [show f21 (Qd.mk x.2.1 x.2.2 []) ((⟨x.2.1,x.2.2,[]⟩:AA),x.1).1=_ from f21_eq (a:=⟨x.2.1,x.2.2,[]⟩) hlx (by simp)];simp only [Option.bind_some,cond_true,decide_true]
  obtain ⟨t1,ht1⟩:=f22r1_ex x.2.1 hlx;rw [h1];simp only [Option.bind_some,ht1];rw [f23_eq (a:=a) (by omega) (by omega) b,f24_eq hg b];simp only [Option.bind_some];have hlb:=bidR_len (a:=a) (by omega) (by omega) b;generalize hz:bidR a b=z at hlb;have h2:f8n2 true (z.1,z.2.Rule,z.2.Lots,z.2.Bids) (z.2,z.1) true a b (a.Lots,a.Bids)=some (.norm true):=by
   unfold f8n2;rw [show f21 (Qd.mk (z.1,z.2.Rule,z.2.Lots,z.2.Bids).2.1 (z.1,z.2.Rule,z.2.Lots,z.2.Bids).2.2.1 (z.1,z.2.Rule,z.2.Lots,z.2.Bids).2.2.2) (z.2,z.1).1=_ from f21_eq (a:=z.2) hlb.1 hlb.2];simp only [Option.bind_some,cond_true,decide_true]
  obtain ⟨t2,ht2⟩:=f22r2_ex z.2.Rule hlb.1 hlb.2;rw [h2];simp only [Option.bind_some,ht2];rw [show (Qd.mk a.Rule a.Lots a.Bids)=a from rfl,f12_eq,f25_eq h0,f18_eq,f26_eq h0,f15_eq,f27_eq h0,f16_eq,f28_eq h0];simp only [Option.bind_some];have hlen:(bif okA a then (awS a,(0:Int)) else ([],8)).1.length≤1000:=by
   have:=awS_len a;cases okA a with
   | true=>show (awS a).length≤1000; omega
   | false=>simp
  have hlen2:(bif okA a then (leftS a,(0:Int)) else ([],8)).1.length≤1000:=by
   cases okA a with
   | true=>show (leftS a).length≤1000; unfold leftS; rw [List.length_map]; omega
   | false=>simp
  have h3:f8n3 true true (bif okA a then (awS a,0) else ([],8)) (bif okA a then (awS a,0) else ([],8)) (bif okA a then (leftS a,0) else ([],8)) (bif okA a then (leftS a,0) else ([],8)) (bif okA a then (procS a,0) else (0,8)) (bif okA a then (procS a,0) else (0,8)) (bif okA a then (paidS a b.Member,0) else (0,8)) (bif okA a then (paidS a b.Member,0) else (0,8)) a (a.Lots,a.Bids)=some (.norm true):=by
   unfold f8n3;rw [f29_eq hlen,f30_eq hlen2];simp only [Option.bind_some,cond_true,decide_true];rw [show (Qd.mk a.Rule (a.Lots,a.Bids).1 (a.Lots,a.Bids).2)=a from rfl,f31_eq,f32_eq];simp only [Option.bind_some,decide_true]
  rw [h3];simp only [Option.bind_some,cond_true];rw [f21_eq (by omega) (by omega)]; rfl
end Go.Proofs.Ythpceddjepbamaa
