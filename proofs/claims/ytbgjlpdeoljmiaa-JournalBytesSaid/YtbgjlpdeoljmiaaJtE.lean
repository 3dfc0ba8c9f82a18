/- JournalBytes in plain words: the reference's parsing and recovering; the law. No condition. -/
import Derived.Test.YtbgjlpdeoljmiaaJvE
namespace Go.Proofs.Ytbgjlpdeoljmiaa
set_option linter.unusedVariables false
set_option linter.unusedSimpArgs false
open Go.RowKit
theorem f62_eq{b:List Int}(hb:Byt b)(hl:b.length≤1000000):f62 b=some (match b with
  | []=>(Qbz,[],false)
  | n::r=>if r.length<n.toNat then (Qbz,[],false) else (sOf (r.take n.toNat),r.drop n.toNat,true)):=by
 unfold f62 f62n0;cases b with
 | nil=>rfl
 | cons n r =>
  have hn:=hb n (by simp);simp only [List.length_cons] at hl ⊢;have h0:at? (n::r) 0=some n:=rfl;have w1:wr64 n=n:=Qr (by omega) (by omega);have w2:wr64 (1+n)=((n.toNat+1:Nat):Int):=by rw [Qr (by omega) (by omega)]; omega
  rw [decide_eq_false (by omega),h0];simp only [cond_false,Option.bind_some,w1,w2,Int.toNat_natCast]
  by_cases h:r.length<n.toNat
  ·rw [if_pos h,decide_eq_true (by omega)]; rfl
  ·rw [if_neg h,decide_eq_false (by omega)];have c1:cutB 1 ((n.toNat+1:Nat):Int) (r.length+1)=true:=by simp only [cutB,decide_eq_true_eq]; omega
   have c2:cutB ((n.toNat+1:Nat):Int) ((r.length+1:Nat):Int) (r.length+1)=true:=by simp only [cutB,decide_eq_true_eq]; omega
   simp only [cond_false,req,c1,c2,cond_true,List.take_succ_cons,List.drop_succ_cons];rfl
theorem word_read{b:List Int}(hb:Byt b)(hl:b.length≤1000000):f62 b=some (Qbz,[],false)∨∃s r,f62 b=some (s,r,true)∧b=strB s++r∧s.size≤255:=by
 rw [f62_eq hb hl];cases b with
 | nil=>exact .inl rfl
 | cons n r =>
  have hn:=hb n (by simp)
  by_cases h:r.length<n.toNat
  ·simp only [if_pos h]; exact .inl trivial
  ·simp only [if_neg h];refine .inr ⟨_,_,rfl,?_,?_⟩
   ·have hl:(r.take n.toNat).length=n.toNat:=by simp; omega
    unfold strB;rw [size_sOf,hl,ofB_sOf (fun x hx=>hb x (List.mem_cons_of_mem _ (List.mem_of_mem_take hx))),List.cons_append,List.take_append_drop]
    congr 1; omega
   ·rw [size_sOf]; simp; omega
theorem word_write{s:ByteArray}(h:s.size≤255){r:List Int}(hr:Byt r)(hl:(strB s++r).length≤1000000):f62 (strB s++r)=some (s,r,true):=by
 rw [f62_eq ((strB_byt h).app hr) hl];simp only [strB,List.cons_append];have hl:(ofB s).length=s.size:=len_ofB s;rw [if_neg (by simp [hl])];rw [Int.toNat_natCast,←hl,List.take_left',List.drop_left',sOf_ofB]<;>rfl

theorem pl_read(a3:Int)(q:ByteArray×(List Int)×Bool){m:Nat}(hm:m≤255):∀(n f v:Nat)(b:List Int)(acc:List Qb),v+n=m→n<f→acc.length+n≤1000→Byt b→b.length≤1000000 →
  (∃x,f46n2 f (m:Int) a3 q b (v:Int) acc=some (.ret x))∨∃ls r,f46n2 f (m:Int) a3 q b (v:Int) acc=some (.exit0 r (acc++ls))∧b=ls.flatMap Qas++r∧ls.length=n∧(∀x∈ls,Lsm x)∧Byt r
 | n,0,_,_,_,_,hf,_,_,_=>absurd hf (Nat.not_lt_zero _)
 | 0,f+1,v,b,acc,hv,_,_,hb,_=>.inr ⟨[],b,by rw [f46n2,Qr (by omega) (by omega),decide_eq_false (by omega),List.append_nil]; rfl,rfl,rfl,fun x hx=>by simp at hx,hb⟩
 | n+1,f+1,v,b,acc,hv,hf,ha,hb,hl=>by
  rw [f46n2,Qr (n:=(m:Int)) (by omega) (by omega),decide_eq_true (by omega)];simp only [cond_true];rcases word_read hb hl with e | ⟨s,b1,e,h1,h2⟩
  ·rw [e]; exact .inl ⟨_,rfl⟩
  ·subst h1;have hb1:=hb.right;simp only [List.length_append] at hl;rw [e];simp only [Option.bind_some,cond_true];rcases word_read hb1 (by omega) with e2 | ⟨t,b2,e2,h3,h4⟩
   ·rw [e2]; exact .inl ⟨_,rfl⟩
   ·subst h3;have hb2:=hb1.right;simp only [List.length_append] at hl;rw [e2];simp only [Option.bind_some,cond_true]
    by_cases hl8':b2.length<8
    ·rw [decide_eq_true (by omega)]; exact .inl ⟨_,rfl⟩
    ·rw [decide_eq_false (by omega)];have c1:cutB 0 8 b2.length=true:=by simp only [cutB,decide_eq_true_eq]; omega
     have c2:cutB 8 (b2.length:Int) b2.length=true:=by simp only [cutB,decide_eq_true_eq]; omega
     have hdr:(8:Int).toNat=8:=rfl;have hl8:(b2.take 8).length=8:=by simp; omega
     simp only [cond_false,req,c1,c2,cond_true,hdr,List.drop_zero];rw [f45_eq (hb2.take 8) (by omega)];have hw:wr64 ((v:Int)+1)=((v+1:Nat):Int):=Qr (by omega) (by omega);have hn:=num_nn (hb2.take 8);rw [hl8] at hn;have hp:(256:Int) ^ 8=18446744073709551616:=by decide
     have hi:=i64_of_u64 (u:=num (b2.take 8)) (by omega);have hlow:low (Qu (wr64 (num (b2.take 8)))) 8=b2.take 8:=by
      rw [hi.1]; exact low_num' (hb2.take 8) hl8
     simp only [Option.bind_some,Qaf (show acc.length+1≤1000000 by omega) (show 40≤1000000 by omega),cond_true,hw];rcases pl_read a3 q hm n f (v+1) (b2.drop 8) (acc++[⟨s,t,wr64 (num (b2.take 8))⟩]) (by omega) (by omega) (by simp; omega) (hb2.drop 8) (by simp; omega) with ⟨r,e3⟩|⟨ls,r,e3,k1,k2,k3,k4⟩
     ·exact .inl ⟨r,e3⟩
     ·refine .inr ⟨⟨s,t,wr64 (num (b2.take 8))⟩::ls,r,by rw [e3,List.append_assoc]; rfl,?_,by simp [k2],fun x hx=>?_,k4⟩
      ·simp only [List.flatMap_cons,Qas,hlow,List.append_assoc];rw [←k1,List.take_append_drop]
      ·rcases List.mem_cons.1 hx with rfl | hx
       ·exact ⟨h2,h4,hi.2⟩
       ·exact k3 x hx
theorem pl_write(a3:Int)(q:ByteArray×(List Int)×Bool){m:Nat}(hm:m≤255):∀(ls:List Qb)(f v:Nat)(acc:List Qb),v+ls.length=m→ls.length<f→acc.length+ls.length≤1000→(∀x∈ls,Lsm x) →
  f46n2 f (m:Int) a3 q (ls.flatMap Qas) (v:Int) acc=some (.exit0 [] (acc++ls))
 | _,0,_,_,_,hf,_,_=>absurd hf (Nat.not_lt_zero _)
 | [],f+1,v,acc,hv,_,_,_=>by
  rw [f46n2,Qr (by omega) (by omega),decide_eq_false (by simp at hv; omega),List.append_nil]; rfl
 | x::ls,f+1,v,acc,hv,hf,ha,h=>by
  simp only [List.length_cons] at hv hf ha;have hx:=h x (by simp);have hls:∀y∈ls,Lsm y:=fun y hy=>h y (by simp [hy]);have hu:=u64_of_i64 hx.2.2;have hrest:Byt (ls.flatMap Qas):=lines_byt hls;have hlen:=lines_len hls;have h1:=hx.1; have h2:=hx.2.1;have hw:wr64 ((v:Int)+1)=((v+1:Nat):Int):=Qr (by omega) (by omega);have hdr:(8:Int).toNat=8:=rfl;have hll:(low (Qu x.Amount) 8++ls.flatMap Qas).length=8+(ls.flatMap Qas).length:=by simp [Qw]
  have c1:cutB 0 8 (low (Qu x.Amount) 8++ls.flatMap Qas).length=true:=by rw [hll]; simp only [cutB,decide_eq_true_eq]; omega
  have c2:cutB 8 ((low (Qu x.Amount) 8++ls.flatMap Qas).length:Int) (low (Qu x.Amount) 8++ls.flatMap Qas).length=true:=by rw [hll]; simp only [cutB,decide_eq_true_eq]; omega
  have hp:(256:Int) ^ 8=18446744073709551616:=by decide
  have ht:(low (Qu x.Amount) 8++ls.flatMap Qas).take 8=low (Qu x.Amount) 8:=List.take_left' (Qw 8 _);have hd:(low (Qu x.Amount) 8++ls.flatMap Qas).drop 8=ls.flatMap Qas:=List.drop_left' (Qw 8 _);rw [f46n2,Qr (n:=(m:Int)) (by omega) (by omega),decide_eq_true (by omega)];simp only [cond_true,List.flatMap_cons,Qas,List.append_assoc];rw [word_write hx.1 ((strB_byt hx.2.1).app ((low_byt 8 _).app hrest)) (by simp only [List.length_append,Qce,Qw]; omega)];simp only [Option.bind_some,cond_true];rw [word_write hx.2.1 ((low_byt 8 _).app hrest) (by simp only [List.length_append,Qce,Qw]; omega)];simp only [Option.bind_some,cond_true];rw [decide_eq_false (by rw [hll]; omega)];simp only [cond_false,req,c1,c2,cond_true,hdr,ht,hd,List.drop_zero];rw [f45_eq (low_byt 8 _) (by rw [Qw]; omega),num_low hu.2.1 (by omega)]
  simp only [Option.bind_some,hu.1,Qaf (show acc.length+1≤1000000 by omega) (show 40≤1000000 by omega),cond_true,hw];rw [pl_write a3 q hm ls f (v+1) _ (by omega) (by omega) (by simp; omega) hls,List.append_assoc]; rfl

theorem parse_read{p:List Int}(hp:Byt p)(hl:p.length≤1000000):∃r is,f46 p=some (r,is)∧(is=true→Rsm r∧p=pay (num (p.take 4)) r∧8≤p.length):=by
 unfold f46 f46n0
 by_cases h8:p.length<8
 ·rw [decide_eq_true (by omega)]; exact ⟨_,_,rfl,fun h=>by cases h⟩
 ·rw [decide_eq_false (by omega)];have c1:cutB 4 8 p.length=true:=by simp only [cutB,decide_eq_true_eq]; omega
  have c2:cutB 8 (p.length:Int) p.length=true:=by simp only [cutB,decide_eq_true_eq]; omega
  have t4:(4:Int).toNat=4:=rfl;have t8:(8:Int).toNat=8:=rfl;have hsl:(p.take 8).drop 4=(p.drop 4).take 4:=by rw [List.drop_take]
  have hl5:((p.drop 4).take 4).length=4:=by simp; omega
  simp only [cond_false,req,c1,c2,cond_true,t4,t8,hsl];rw [f45_eq ((hp.drop 4).take 4) (by omega)];simp only [Option.bind_some];rcases word_read (hp.drop 8) (by simp; omega) with e | ⟨t,b,e,k1,k2⟩
  ·rw [e]; exact ⟨_,_,rfl,fun h=>by cases h⟩
  ·rw [e];simp only [Option.bind_some,cond_true];have hb:Byt b:=by have:=hp.drop 8; rw [k1] at this; exact this.right
   have hbl:b.length≤1000000:=by
    have h:=congrArg List.length k1;simp only [List.length_append,List.length_drop] at h; omega
   cases b with
   | nil=>exact ⟨_,_,rfl,fun h=>by cases h⟩
   | cons c b2 =>
    have hc:=hb c (by simp);have h0:at? (c::b2) 0=some c:=rfl;have hz:decide (((c::b2).length:Int)=0)=false:=decide_eq_false (by simp only [List.length_cons]; omega);have c3:cutB 1 ((c::b2).length:Int) (c::b2).length=true:=by simp only [cutB,decide_eq_true_eq,List.length_cons]; omega
    have hcn:c=((c.toNat:Nat):Int):=by omega
    have hF:1000<FUEL:=by unfold FUEL; decide
    have hn4:=num_nn (hp.take 4);have hn5:=num_nn ((hp.drop 4).take 4);have hl4:(p.take 4).length=4:=by simp; omega
    have hp4:(256:Int) ^ 4=4294967296:=by decide
    rw [hl4,hp4] at hn4;rw [hl5,hp4] at hn5;have hw:wr64 (num ((p.drop 4).take 4))=num ((p.drop 4).take 4):=Qr (by omega) (by omega);have hdr:(c::b2).drop (1:Int).toNat=b2:=rfl;rw [hz,h0];simp only [cond_false,Option.bind_some,c3,cond_true,hw];unfold f46n1;simp only [hdr];have hlb2:b2.length≤1000000:=by simp only [List.length_cons] at hbl; omega
    rcases pl_read (num ((p.drop 4).take 4)) (t,c::b2,true) (m:=c.toNat) (by omega) c.toNat FUEL 0 b2 [] (by omega) (by omega) (by simp; omega) (fun x hx=>hb x (by simp [hx])) hlb2 with ⟨x,e3⟩|⟨ls,r,e3,k3,k4,k5,k6⟩
    ·rw [←hcn] at e3;simp only [Int.natCast_zero] at e3;rw [e3]; exact ⟨_,_,rfl,fun h=>by cases h⟩
    ·rw [←hcn] at e3;simp only [Int.natCast_zero,List.nil_append] at e3;rw [e3];simp only [Option.bind_some];refine ⟨_,_,rfl,fun his=>?_⟩;have hr0:r=[]:=by
      have h2:((r.length:Nat):Int)=0:=of_decide_eq_true his;exact List.eq_nil_of_length_eq_zero (by omega)
     subst hr0;rw [List.append_nil] at k3;refine ⟨⟨hn5.1,hn5.2,k2,by show ls.length≤255; omega,k5⟩,?_,by omega⟩;have s1:low (num (p.take 4)) 4=p.take 4:=low_num' (hp.take 4) hl4;have s2:low (num ((p.drop 4).take 4)) 4=(p.drop 4).take 4:=low_num' ((hp.drop 4).take 4) hl5;have s3:((ls.length:Nat):Int)=c:=by omega
     have s4:(p.drop 4).drop 4=p.drop 8:=by rw [List.drop_drop]
     simp only [pay];rw [s1,s2,s3,←k3,←k1,←s4,List.take_append_drop,List.take_append_drop]
theorem parse_write{n:Int}{r:Qa}(h:Rsm r):f46 (pay n r)=some (r,true):=by
 have hp:=pay_byt (n:=n) h;have hpl:=pay_len (n:=n) h;have hl3:=h.2.2.2.1;have hd:=h.1; have hd2:=h.2.1;have t4:(4:Int).toNat=4:=rfl;have t8:(8:Int).toNat=8:=rfl;have hp4:(256:Int) ^ 4=4294967296:=by decide
 have hlen:(pay n r).length=8+(strB r.Text++((r.Lines.length:Int)::r.Lines.flatMap Qas)).length:=by simp only [pay,List.length_append,Qw]; omega
 have d1:(pay n r).drop 4=low r.Day 4++(strB r.Text++((r.Lines.length:Int)::r.Lines.flatMap Qas)):=List.drop_left' (Qw 4 _);have d2:(pay n r).drop 8=strB r.Text++((r.Lines.length:Int)::r.Lines.flatMap Qas):=by
  rw [show (8:Nat)=4+4 from rfl,←List.drop_drop,d1]; exact List.drop_left' (Qw 4 _)
 have hsl:((pay n r).take 8).drop 4=low r.Day 4:=by
  rw [List.drop_take,d1]; exact List.take_left' (Qw 4 _)
 have c1:cutB 4 8 (pay n r).length=true:=by simp only [cutB,decide_eq_true_eq]; omega
 have c2:cutB 8 ((pay n r).length:Int) (pay n r).length=true:=by simp only [cutB,decide_eq_true_eq]; omega
 have hb2:Byt ((r.Lines.length:Int)::r.Lines.flatMap Qas):=by have:=hp.drop 8; rw [d2] at this; exact this.right
 have h0:at? ((r.Lines.length:Int)::r.Lines.flatMap Qas) 0=some (r.Lines.length:Int):=rfl;have hz:decide ((((r.Lines.length:Int)::r.Lines.flatMap Qas).length:Int)=0)=false:=decide_eq_false (by simp only [List.length_cons]; omega);have c3:cutB 1 (((r.Lines.length:Int)::r.Lines.flatMap Qas).length:Int) ((r.Lines.length:Int)::r.Lines.flatMap Qas).length=true:=by simp only [cutB,decide_eq_true_eq,List.length_cons]; omega
 have hF:1000<FUEL:=by unfold FUEL; decide
 have hdr:((r.Lines.length:Int)::r.Lines.flatMap Qas).drop (1:Int).toNat=r.Lines.flatMap Qas:=rfl;have hw:=pl_write r.Day (r.Text,(r.Lines.length:Int)::r.Lines.flatMap Qas,true) (m:=r.Lines.length) hl3 r.Lines FUEL 0 [] (by omega) (by omega) (by simp; omega) h.2.2.2.2;simp only [Int.natCast_zero,List.nil_append] at hw;unfold f46 f46n0;rw [decide_eq_false (by omega)];simp only [cond_false,req,c1,c2,cond_true,t4,t8,hsl,d2];rw [f45_eq (low_byt 4 _) (by rw [Qw]; omega),num_low hd (by omega)];simp only [Option.bind_some];rw [word_write h.2.2.1 hb2 (by rw [hlen] at hpl; omega)];simp only [Option.bind_some,cond_true,hz,cond_false,h0,c3];unfold f46n1;simp only [hdr,hw,Option.bind_some,Qr (show -9223372036854775808≤r.Day by omega) (show r.Day≤9223372036854775807 by omega)];rfl

theorem cutE{E rest:List Int}{i j:Nat} : ((E++rest).take (E.length+j)).drop (E.length+i)=(rest.drop i).take (j-i):=by
 rw [List.drop_take,←List.drop_drop,List.drop_left]
 congr 1; omega
theorem f17n2_eq(b:List Int)(u k s:Int)(r:Qa)(is:Bool){l:List Qa}(h:l.length≤1000):f17n2 b u k s (r,is) l=some (.norm (l++[r])):=by
 unfold f17n2;cases l with
 | nil=>rfl
 | cons x l=>simp only [List.isEmpty_cons,cond_false,req,Qaf (show (x::l).length≤1000000 by omega) (show 48≤1000000 by omega),Qaf (show (x::l).length+1≤1000000 by omega) (show 48≤1000000 by omega),cond_true]
theorem step_eq{E rest:List Int}{s:Int}{recs:List Qa}(hl:(E++rest).length≤100000)(hr:Byt rest)(hs:0≤s∧s≤18446744073709551615)(h12:12≤rest.length)(hrl:recs.length≤200)(hrk:∀r∈recs,Rk r){k:Nat}(hk:num (rest.take 4)=(k:Int)) :
  (rest.length<k+12→f17n1 (E++rest) (E.length:Int) s recs=some .ret)∧(k+12≤rest.length→∀r is,f46 ((rest.drop 4).take k)=some (r,is)→(is=true→Rk r∧4≤k) →
   f17n1 (E++rest) (E.length:Int) s recs=some (bif is&&(decide (num (((rest.drop 4).take k).take 4)=(recs.length:Int)+1)&&(decide (num ((rest.drop (4+k)).take 8)=stF s ((rest.drop 4).take k))&&(openS ⟨recs++[r]⟩).1)) then .norm ((E.length+12+k:Nat):Int) (stF s ((rest.drop 4).take k)) (recs++[r]) else .ret)):=by
 rw [List.length_append] at hl;have hbl:(E++rest).length=E.length+rest.length:=List.length_append ..;have hl4:(rest.take 4).length=4:=by simp; omega
 have hn4:=num_nn (hr.take 4);have hp4:(256:Int) ^ 4=4294967296:=by decide
 rw [hl4,hp4,hk] at hn4;have w4:wr64 ((E.length:Int)+4)=((E.length+4:Nat):Int):=by rw [Qr (by omega) (by omega)]; omega
 have w12:wr64 ((E.length:Int)+12)=((E.length+12:Nat):Int):=by rw [Qr (by omega) (by omega)]; omega
 have wk:wr64 ((k:Nat):Int)=(k:Int):=Qr (by omega) (by omega);have wl:wr64 (((E++rest).length:Int)-(E.length:Int))=(rest.length:Int):=by rw [Qr (by omega) (by omega)]; omega
 have wl2:wr64 ((rest.length:Int)-12)=(rest.length:Int)-12:=Qr (by omega) (by omega);have wl3:Qu ((rest.length:Int)-12)=(rest.length:Int)-12:=wru_id (by omega) (by omega);have wr1:wr64 ((recs.length:Int)+1)=(recs.length:Int)+1:=Qr (by omega) (by omega);have wr2:Qu ((recs.length:Int)+1)=(recs.length:Int)+1:=wru_id (by omega) (by omega);have c0:cutB (E.length:Int) ((E.length+4:Nat):Int) (E++rest).length=true:=by simp only [cutB,decide_eq_true_eq]; omega
 have s0:((E++rest).take (E.length+4)).drop E.length=rest.take 4:=by
  have:=cutE (E:=E) (rest:=rest) (i:=0) (j:=4);simpa using this
 have hr4:f45 (rest.take 4)=some (k:Int):=by rw [f45_eq (hr.take 4) (by omega),hk]
 unfold f17n1;simp only [w4,w12,wl,wl2,wl3,wr1,wr2,c0,req,cond_true,Int.toNat_natCast,s0,hr4,Option.bind_some,wk];refine ⟨fun h=>by rw [decide_eq_true (by omega)]; rfl,fun h r is hf hrr=>?_⟩;have w5:wr64 (((E.length+4:Nat):Int)+(k:Int))=((E.length+(4+k):Nat):Int):=by rw [Qr (by omega) (by omega)]; omega
 have w13:wr64 (((E.length+12:Nat):Int)+(k:Int))=((E.length+(12+k):Nat):Int):=by rw [Qr (by omega) (by omega)]; omega
 have s1:((E++rest).take (E.length+(4+k))).drop (E.length+4)=(rest.drop 4).take k:=by
  rw [cutE]; congr 1; omega
 have s2:((E++rest).take (E.length+(12+k))).drop (E.length+(4+k))=(rest.drop (4+k)).take 8:=by
  rw [cutE]; congr 1; omega
 have c1:cutB ((E.length+4:Nat):Int) ((E.length+(4+k):Nat):Int) (E++rest).length=true:=by simp only [cutB,decide_eq_true_eq]; omega
 have c2:cutB ((E.length+(4+k):Nat):Int) ((E.length+(12+k):Nat):Int) (E++rest).length=true:=by simp only [cutB,decide_eq_true_eq]; omega
 have hpl:((rest.drop 4).take k).length=k:=by simp; omega
 have hpb:Byt ((rest.drop 4).take k):=(hr.drop 4).take k;rw [decide_eq_false (by omega)];simp only [cond_false,w5,w13,c1,c2,cond_true,Int.toNat_natCast,s1,s2];generalize hP:(rest.drop 4).take k=P at *;rw [f21r2_eq hs.1 hs.2 (by omega),hf];simp only [Option.bind_some];cases is with
 | false=>rfl
 | true =>
  obtain ⟨hrr,hk4⟩:=hrr rfl;have t4:(4:Int).toNat=4:=rfl;have c3:cutB 0 4 P.length=true:=by simp only [cutB,decide_eq_true_eq]; omega
  simp only [cond_true,c3,t4,List.drop_zero];rw [f45_eq (hpb.take 4) (by rw [List.length_take]; omega),f45_eq ((hr.drop (4+k)).take 8) (by rw [List.length_take]; omega)];have hj:Jk ⟨recs++[r]⟩:=by
   refine ⟨?_,fun y hy=>?_⟩
   ·show (recs++[r]).length≤maxLen;have hM:1000≤maxLen:=by unfold maxLen; decide
    simp only [List.length_append,List.length_cons,List.length_nil]; omega
   ·rcases List.mem_append.1 hy with hy | hy
    ·exact hrk y hy
    ·rw [List.mem_singleton.1 hy]; exact hrr
  simp only [Option.bind_some,f17n2_eq _ _ _ _ r true (show recs.length≤1000 by omega),f35_eq hj];have eN:E.length+(12+k)=E.length+12+k:=by omega
  rw [eN];cases decide (num (P.take 4)=(recs.length:Int)+1)<;>cases decide (num ((rest.drop (4+k)).take 8)=stF s P)<;>cases (openS ⟨recs++[r]⟩).1<;>rfl

theorem whole2{r:Qa}{more:List Qa}{s:Int}{n:Nat}{t rest:List Int}(hr:Rsm r)(h:rest=encL (r::more) s n++t) :
  num (rest.take 4)=((pay ((n:Int)+1) r).length:Int)∧(rest.drop 4).take (pay ((n:Int)+1) r).length=pay ((n:Int)+1) r∧num ((rest.drop (4+(pay ((n:Int)+1) r).length)).take 8)=stm s (pay ((n:Int)+1) r) ∧
   rest.drop (12+(pay ((n:Int)+1) r).length)=encL more (stm s (pay ((n:Int)+1) r)) (n+1)++t∧(pay ((n:Int)+1) r).length+12≤rest.length:=by
 have hpl:=pay_len (n:=(n:Int)+1) hr;have hM:1000000≤maxLen:=by unfold maxLen; decide
 obtain ⟨_,hst⟩:=f20_eq s (l:=pay ((n:Int)+1) r) (by omega);have hp4:(256:Int) ^ 4=4294967296:=by decide
 have hp8:(256:Int) ^ 8=18446744073709551616:=by decide
 simp only [encL,List.append_assoc] at h;subst h;generalize pay ((n:Int)+1) r=P at *;generalize encL more (stm s P) (n+1)++t=R;have d4:(low (P.length:Int) 4++(P++(low (stm s P) 8++R))).drop 4=P++(low (stm s P) 8++R):=List.drop_left' (Qw 4 _);have dp:(low (P.length:Int) 4++(P++(low (stm s P) 8++R))).drop (4+P.length)=low (stm s P) 8++R:=by
  rw [←List.drop_drop,d4,List.drop_left]
 refine ⟨?_,?_,?_,?_,?_⟩
 ·rw [List.take_left' (Qw 4 _),num_low (by omega) (by omega)]
 ·rw [d4,List.take_left]
 ·rw [dp,List.take_left' (Qw 8 _),num_low hst.1 (by omega)]
 ·rw [show 12+P.length=(4+P.length)+8 by omega,←List.drop_drop,dp,List.drop_left' (Qw 8 _)]
 ·simp only [List.length_append,Qw]; omega
def outR:f17n3O→Int×List Qa
 | .exit0 u l=>(u,l)
 | .ret u l=>(u,l)
theorem recover2_at{b:List Int}(hbl:b.length≤100000):∀(n f:Nat)(s:Int)(rest:List Int)(recs:List Qa),(Qat recs 0 0 []).1=true→b=encL recs 0 0++rest→s=stL recs 0 0→Byt rest→recs.length+n=201→n<f →
  ∃ o recs' rest', f17n3 f b ((encL recs 0 0).length : Int) s recs = some o ∧ outR o = (((encL recs' 0 0).length : Int), recs') ∧ (Qat recs' 0 0 []).1 = true ∧ b = encL recs' 0 0 ++ rest' ∧
   ∀more t,(Qat (recs++more) 0 0 []).1=true→rest=encL more s recs.length++t→∃x,recs'=recs++more++x
 | n,0,_,_,_,_,_,_,_,_,hf=>absurd hf (Nat.not_lt_zero _)
 | n,f+1,s,rest,recs,ho,hb,hs,hr,hn,hf=>by
  have hfo:∀r∈recs,Qaw r=true:=fun r hr=>(Qcy ho r hr).1;have hrk:∀r∈recs,Rk r:=fun r hr=>rsm_rk (formed_rsm (hfo r hr));have hrl:recs.length≤200:=by have:=(open_many ho (Int.le_refl _) (by decide)).2; omega
  have hsr:0≤s∧s≤18446744073709551615:=by rw [hs]; exact stL_rng recs 0 0 hfo (by omega)
  have hM:1000000≤maxLen:=by unfold maxLen; decide
  have hlen:b.length=(encL recs 0 0).length+rest.length:=by rw [hb,List.length_append]
  have wl:wr64 ((b.length:Int)-((encL recs 0 0).length:Int))=(rest.length:Int):=by rw [Qr (by omega) (by omega)]; omega
  -- it stops here
  have stop:∀o,f17n3 (f+1) b ((encL recs 0 0).length:Int) s recs=some o→outR o=(((encL recs 0 0).length:Int),recs)→(∀r more' t,(Qat (recs++r::more') 0 0 []).1=true→rest≠encL (r::more') s recs.length++t) →
    ∃ o recs' rest', f17n3 (f + 1) b ((encL recs 0 0).length : Int) s recs = some o ∧ outR o = (((encL recs' 0 0).length : Int), recs') ∧ (Qat recs' 0 0 []).1 = true ∧ b = encL recs' 0 0 ++ rest' ∧
     ∀more t,(Qat (recs++more) 0 0 []).1=true→rest=encL more s recs.length++t→∃x,recs'=recs++more++x:=by
   intro o e1 e2 hno;refine ⟨o,recs,rest,e1,e2,ho,hb,fun more t h1 h2=>?_⟩;cases more with
   | nil=>exact ⟨[],by simp⟩
   | cons r more'=>exact absurd h2 (hno r more' t h1)
  have mem:∀{r more'},(Qat (recs++r::more') 0 0 []).1=true→Rsm r:=fun h=>formed_rsm (Qcy h _ (by simp)).1
  by_cases h12:rest.length<12
  ·refine stop (.exit0 ((encL recs 0 0).length:Int) recs) (by rw [f17n3,wl,decide_eq_false (by omega)]; rfl) rfl fun r more' t h1 h2=>?_;have:=(whole2 (mem h1) h2).2.2.2.2;omega
  ·have hn4:=num_nn (hr.take 4);obtain ⟨k,hk⟩:=Int.eq_ofNat_of_zero_le hn4.1;have hstep:=step_eq (E:=encL recs 0 0) (rest:=rest) (s:=s) (recs:=recs) (by rw [←hb]; exact hbl) hr hsr (by omega) hrl hrk hk;rw [←hb] at hstep;have e0:f17n3 (f+1) b ((encL recs 0 0).length:Int) s recs=((f17n1 b ((encL recs 0 0).length:Int) s recs).bind fun o335=>match o335 with
    | .norm v337 v338 v339=>(f17n3 f b v337 v338 v339)
    | .ret=>some (.ret ((encL recs 0 0).length:Int) recs)):=by rw [f17n3,wl,decide_eq_true (by omega)]; rfl
   by_cases hk12:rest.length<k+12
   ·refine stop (.ret ((encL recs 0 0).length:Int) recs) (by rw [e0,hstep.1 hk12]; rfl) rfl fun r more' t h1 h2=>?_;obtain ⟨w1,_,_,_,w5⟩:=whole2 (mem h1) h2;rw [hk] at w1;have:k=(pay ((recs.length:Int)+1) r).length:=by omega
    omega
   ·have hpb:Byt ((rest.drop 4).take k):=(hr.drop 4).take k;have hpl:((rest.drop 4).take k).length=k:=by simp; omega
    obtain ⟨r,is,e1,hread⟩:=parse_read hpb (by omega);have e2:=hstep.2 (by omega) r is e1 (fun h=>⟨rsm_rk (hread h).1,by have:=(hread h).2.2; omega⟩);generalize hC:(is&&(decide (num (((rest.drop 4).take k).take 4)=(recs.length:Int)+1)&&(decide (num ((rest.drop (4+k)).take 8)=stF s ((rest.drop 4).take k))&&(openS ⟨recs++[r]⟩).1)))=C at e2
    -- a whole record is read as it is
    have whole:∀r0 more' t,(Qat (recs++r0::more') 0 0 []).1=true→rest=encL (r0::more') s recs.length++t→C=true∧r=r0∧k=(pay ((recs.length:Int)+1) r0).length:=by
     intro r0 more' t h1 h2;obtain ⟨w1,w2,w3,w4,w5⟩:=whole2 (mem h1) h2;rw [hk] at w1;have hkk:k=(pay ((recs.length:Int)+1) r0).length:=by omega
     rw [←hkk] at w2 w3;rw [w2,parse_write (mem h1)] at e1;simp only [Option.some.injEq,Prod.mk.injEq] at e1;obtain ⟨q1,q2⟩:=e1;refine ⟨?_,q1.symm,hkk⟩;rw [←hC,w2,w3,stm_eq hsr.1 hsr.2 (by have:=pay_len (n:=(recs.length:Int)+1) (mem h1); omega),←q1,←q2];have hlow:(pay ((recs.length:Int)+1) r0).take 4=low ((recs.length:Int)+1) 4:=List.take_left' (Qw 4 _);have hp4:(256:Int) ^ 4=4294967296:=by decide
     have hop:(openS ⟨recs++[r0]⟩).1=true:=by
      have h3:(Qat ((recs++[r0])++more') 0 0 []).1=true:=by simpa using h1
      have h4:=open_pre h3;have h5:=(open_many h4 (Int.le_refl _) (by decide)).2;unfold openS;rw [decide_eq_false (by show ¬200<(recs++[r0]).length; omega)]; exact h4
     rw [hlow,num_low (by omega) (by omega),hop]
     simp
    cases C with
    | false =>
     refine stop (.ret ((encL recs 0 0).length:Int) recs) (by rw [e0,e2]; rfl) rfl fun r0 more' t h1 h2=>?_;have:=(whole r0 more' t h1 h2).1;cases this
    | true =>
     simp only [Bool.and_eq_true,decide_eq_true_eq] at hC;obtain ⟨hC1,hC2,hC3,hC4⟩:=hC;obtain ⟨hrs,hpay,_⟩:=hread hC1;rw [hC2] at hpay;have hop:(Qat (recs++[r]) 0 0 []).1=true:=by
      unfold openS at hC4;cases hd:decide (200<(recs++[r]).length) with
      | true=>simp only [hd] at hC4; cases hC4
      | false=>simp only [hd] at hC4; exact hC4
     have hlt:recs.length<200:=by have:=(open_many hop (Int.le_refl _) (by decide)).2; simp at this; omega
     have hst:stF s ((rest.drop 4).take k)=stm s (pay ((recs.length:Int)+1) r):=by
      rw [hpay,stm_eq hsr.1 hsr.2 (by have:=pay_len (n:=(recs.length:Int)+1) hrs; omega)]
     have hl4:(rest.take 4).length=4:=by simp; omega
     have hl8:((rest.drop (4+k)).take 8).length=8:=by simp; omega
     have q1:low ((pay ((recs.length:Int)+1) r).length:Int) 4=rest.take 4:=by rw [←hpay,hpl,←hk]; exact low_num' (hr.take 4) hl4
     have q2:low (stm s (pay ((recs.length:Int)+1) r)) 8=(rest.drop (4+k)).take 8:=by rw [←hst,←hC3]; exact low_num' ((hr.drop (4+k)).take 8) hl8
     have hsplit:rest=low ((pay ((recs.length:Int)+1) r).length:Int) 4++(pay ((recs.length:Int)+1) r++(low (stm s (pay ((recs.length:Int)+1) r)) 8++rest.drop (12+k))):=by
      rw [q1,q2,←hpay];have a1:(rest.drop (4+k)).drop 8=rest.drop (12+k):=by rw [List.drop_drop]; congr 1; omega
      have a2:(rest.drop 4).drop k=rest.drop (4+k):=by rw [List.drop_drop]
      rw [←a1,List.take_append_drop,←a2,List.take_append_drop,List.take_append_drop]
     have henc:encL (recs++[r]) 0 0=encL recs 0 0++(low ((pay ((recs.length:Int)+1) r).length:Int) 4++(pay ((recs.length:Int)+1) r++low (stm s (pay ((recs.length:Int)+1) r)) 8)):=by
      rw [encL_append];simp only [encL,List.append_nil,Nat.zero_add];rw [←hs]
     have hb2:b=encL (recs++[r]) 0 0++rest.drop (12+k):=by
      rw [henc];simp only [List.append_assoc];rw [←hsplit]; exact hb
     have hused:(((encL recs 0 0).length+12+k:Nat):Int)=((encL (recs++[r]) 0 0).length:Int):=by
      rw [henc];simp only [List.length_append,Qw];rw [←hpay,hpl]; omega
     have hs2:stm s (pay ((recs.length:Int)+1) r)=stL (recs++[r]) 0 0:=by
      rw [stL_append];simp only [stL,Nat.zero_add];rw [←hs]
     rw [hused,hst] at e2;obtain ⟨n',rfl⟩:∃n',n=n'+1:=⟨n-1,by omega⟩;obtain ⟨o,recs',rest',r1,r2,r3,r4,r5⟩:=recover2_at hbl n' f _ (rest.drop (12+k)) (recs++[r]) hop hb2 hs2 (hr.drop _) (by simp; omega) (by omega);refine ⟨o,recs',rest',by rw [e0,e2]; exact r1,r2,r3,r4,fun more t h1 h2=>?_⟩;cases more with
     | nil =>
      obtain ⟨x,hx⟩:=r5 [] (rest.drop (12+k)) (by rw [List.append_nil]; exact hop) rfl;exact ⟨r::x,by rw [hx]; simp⟩
     | cons r0 more' =>
      obtain ⟨_,rfl,hkk⟩:=whole r0 more' t h1 h2;obtain ⟨_,_,_,w4,_⟩:=whole2 (mem h1) h2;rw [←hkk] at w4;obtain ⟨x,hx⟩:=r5 more' t (by simpa using h1) (by rw [w4]; simp);exact ⟨x,by rw [hx]; simp⟩
theorem f17_eq{b:List Int}(hb:Byt b)(hl:b.length≤100000):∃recs,f17 b=some (⟨recs⟩,((encL recs 0 0).length:Int))∧f16r1 b=some (((encL recs 0 0).length:Int),recs)∧Jk ⟨recs⟩:=by
 have hF:1000<FUEL:=by unfold FUEL; decide
 obtain ⟨recs,rest,h1,h2,h3,h4⟩:=recover_eq hb (by omega);obtain ⟨o,recs',rest',k1,k2,k3,k4,k5⟩:=recover2_at hl 201 FUEL 0 b [] rfl rfl rfl hb (by simp) (by omega);obtain ⟨x,hx⟩:=h4 recs' rest' k3 k4;obtain ⟨y,hy⟩:=k5 recs rest h2.open.2.2 h3;have e:recs'=recs:=by
  rw [List.nil_append] at hy;have l1:=congrArg List.length hx;have l2:=congrArg List.length hy;rw [List.length_append] at l1 l2;have:y=[]:=List.eq_nil_of_length_eq_zero (by omega);rw [hy,this,List.append_nil]
 subst e;refine ⟨recs',?_,h1,h2.1⟩;have k1:f17n3 FUEL b 0 0 []=some o:=k1;unfold f17 f17n0;rw [k1];cases o<;>(simp only [outR,Prod.mk.injEq] at k2; obtain ⟨rfl,rfl⟩:=k2; rfl)

theorem f14r1n2L_at(j:Qh):∀(l:List Qa)(v:Int)(a:List Qa),(∀r∈l,r.Lines.length≤1000)→a.length+l.length≤1000→f14r1n2L j l v a=some (.exit0 (a++l))
 | [],v,a,_,_=>by rw [f14r1n2L,List.append_nil]
 | r::l,v,a,h,hl=>by
  simp only [List.length_cons] at hl;have hr:=h r (by simp);have ih:=fun y=>f14r1n2L_at j l (v+1) (a++[y]) (fun y hy=>h y (by simp [hy])) (by simp; omega);rw [f14r1n2L];simp only [req,Qaf (show a.length+1≤1000000 by omega) (show 48≤1000000 by omega),Qaf (show r.Lines.length≤1000000 by omega) (show 40≤1000000 by omega),cond_true,ih,List.append_assoc];cases he:r.Lines.isEmpty with
  | false=>rfl
  | true =>
   have e:r.Lines=[]:=by simpa using he
   obtain ⟨d,t,k⟩:=r;have e:k=[]:=e;subst e;rfl
theorem f14r1_eq{j:Qh}(h:j.Records.length≤1000∧∀r∈j.Records,r.Lines.length≤1000):f14r1 j=some j.Records:=by
 unfold f14r1 f14r1n0 f14r1n1;rw [f14r1n2_run _ _ (Nat.le_trans h.1 (by unfold maxLen; decide)),f14r1n2L_at _ _ _ _ h.2 (by simpa using h.1)]; rfl
theorem f12n2L_at(j:Qh):∀(l:List Qa)(v:Int),(∀r∈l,Rk r)→f12n2L j l v=some .ret∨(f12n2L j l v=some .exit0∧(v+(l.length:Int)≤221→∀r∈l,r.Lines.length≤40))
 | [],v,_=>.inr ⟨rfl,fun _ r hr=>by cases hr⟩
 | x::l,v,h=>by
  rw [f12n2L];cases hv:decide (v≤220) with
  | false =>
   refine .inr ⟨rfl,fun hl=>?_⟩;have:=of_decide_eq_false hv;simp only [List.length_cons] at hl;omega
  | true =>
   obtain ⟨b,hb,hb2⟩:=f29_at (h x (by simp)).2.1;rw [hb];simp only [cond_true,Option.bind_some];cases b with
   | true=>exact .inl rfl
   | false =>
    simp only [cond_false];cases decide (300<(x.Text.size:Int)) with
    | true=>exact .inl rfl
    | false =>
     simp only [cond_false];rcases f12n2L_at j l (v+1) (fun y hy=>h y (by simp [hy])) with e | ⟨e,he⟩
     ·exact .inl e
     ·refine .inr ⟨e,fun hl r hr=>?_⟩;simp only [List.length_cons] at hl;rcases List.mem_cons.1 hr with rfl | hr
      ·exact hb2 rfl
      ·exact he (by omega) r hr
theorem f12_at{j:Qh}(hj:Jk j):∃b,f12 j=some b∧(b=false→j.Records.length≤1000∧∀r∈j.Records,r.Lines.length≤1000):=by
 unfold f12 f12n0 f12n1;rw [f12n2_run _ hj.1];rcases f12n2L_at j j.Records 0 hj.2 with e | ⟨e,he⟩<;>rw [e]
 ·exact ⟨true,rfl,fun h=>by cases h⟩
 ·refine ⟨decide (220<(j.Records.length:Int)),rfl,fun h=>?_⟩;have:=of_decide_eq_false h;exact ⟨by omega,fun r hr=>by have:=he (by omega) r hr; omega⟩
theorem lawBytes(j:Qh)(b:List Int)(p:Int)(ok0:Qh.ok j)(ok1:b.length≤maxLen∧∀x∈b,okInt .u8 x)(ok2:okInt .u64 p):f3 j b p=some true:=by
 have hj:Jk j:=⟨ok0.1.1,fun r hr=>by
  have:=ok0.1.2 r hr;exact ⟨this.2.1,this.2.2.1.1,fun y hy=>⟨(this.2.2.1.2 y hy).1,(this.2.2.1.2 y hy).2.1⟩⟩⟩
 have hb:Byt b:=fun x hx=>(ok1.2 x hx).u8;have hp:0≤p∧p≤18446744073709551615:=ok2.u64;obtain ⟨g,hg,hg2⟩:=f12_at hj;unfold f3 f3n0;rw [alive_t,hg];simp only [Option.bind_some];cases g with
 | true=>rfl
 | false =>
  cases hd:decide (20000<(b.length:Int)) with
  | true=>rfl
  | false =>
   have hbl:b.length≤20000:=by have:=of_decide_eq_false hd; omega
   have hM:1000000≤maxLen:=by unfold maxLen; decide
   have e1:f3n1 b p true j=some (.norm b):=by
    unfold f3n1;cases b with
    | nil=>rfl
    | cons x l=>simp only [List.isEmpty_cons,cond_false,req,Qaf (show (x::l).length≤1000000 by omega) (show 1≤1000000 by omega),cond_true]
   have e2:∃o e,f13 j=some (o,e)∧f15 j=some (o,e):=by
    cases ho:(openS j).1 with
    | true=>exact ⟨_,_,f13_eq ⟨hj,ho⟩,f15_eq ⟨hj,ho⟩⟩
    | false=>exact ⟨_,_,f13_bad hj ho,f15_bad hj ho⟩
   obtain ⟨o,e,e3,e4⟩:=e2;obtain ⟨recs,e5,e6,hk⟩:=f17_eq hb (by omega);have e7:(Qh.mk j.Records)=j:=rfl;rw [e1];simp only [cond_false,cond_true,Option.bind_some,f14r1_eq (hg2 rfl),e7,e3,e4,e5,e6];have e8:f3n2 b p true b (o,e) (o,e) (((encL recs 0 0).length:Int),recs) (⟨recs⟩,((encL recs 0 0).length:Int))=some (.norm true):=by
    unfold f3n2;simp only [f18_self,Option.bind_some,cond_true,decide_true,f19_self hk,f20_fold hp.1 hp.2 (show b.length≤maxLen by omega),f21r2_eq hp.1 hp.2 (show b.length≤900000 by omega)]
   rw [e8];simp only [Option.bind_some,tch22,cond_true,f18_self]
end Go.Proofs.Ytbgjlpdeoljmiaa
