/- Several texts in one. No condition. -/
import Derived.Test.YtbgjlpdeoljmiaaZF
import Derived.Lib.ConvBytes
import Derived.Laws.AppendOwn
import Derived.Laws.BytesString
namespace Go.Proofs.Ytbgjlpdeoljmiaa
set_option linter.unusedSimpArgs false
set_option linter.unusedVariables false
open Go.RowKit
section
variable {P:Program} {C:Cfg} {w w':World} {Y X:Nat→Prop} {φ:Phi} {H:Hp}
variable {nid:Nat} {ρ:Operand→Value} {ra:Operand→AV} {d:Option Tmp} {ty:TypeId} {pos:String} {af:Array Edge} {g:Option (Nat×Bool)}
theorem g_index{t:Nat}{x y:Operand}{a i v:AV}(hC:Qad P C)(h:evIndex C t a i=some v)(hx:VR w (YOf X φ) φ a (ρ x))(hy:VR w (YOf X φ) φ i (ρ y)) :
  ∃u,(execOp ρ ⟨d,.index t x y,ty,pos,af,g⟩).run P w = .ok (.value u) w∧VR w (YOf X φ) φ v u:=by
 unfold evIndex at h
 split at h
 ·rename_i ti s k n hti;simp only [VR,PR] at hx hy
  split at h
  ·rename_i i' hk hn;have hn:=natOf_eq hn;subst hn;simp only [Option.map_eq_some_iff] at h;obtain ⟨b,hb,rfl⟩:=h;have hlt:i'<s.size:=by have:=(List.getElem?_eq_some_iff.1 hb).1; simpa using this
   have hb2:s[i']?=some b:=by
    have:s.data[i']?=some b:=by simpa using hb
    obtain ⟨h1,h2⟩:=Array.getElem?_eq_some_iff.1 this;rw [getElem?_pos s i' hlt]; exact congrArg some h2
   have h0:(0:Int)≤i':=by omega
   refine ⟨.int .u8 b.toNat,?_,by simp only [VR,PR]⟩;simp [execOp,hx,hy,Instr.index,asIntOf,run_underlying (und_str (hC.ty t ti hti) hk),h0,hb2]
  ·cases h
 ·rename_i ti cs k n hti;simp only [VR,PR] at hx hy;obtain ⟨vs,hv,hl⟩:=hx
  split at h
  ·rename_i m e i' hk hn;have hn:=natOf_eq hn;subst hn
   split at h
   ·rename_i te hte;cases hb:(Nat.blt i' m&&Nat.ble ((i'+1)*te.size) cs.length) with
    | false=>simp [hb] at h
    | true =>
     simp only [hb,cond_true] at h;rw [Bool.and_eq_true,Nat.blt_eq] at hb;obtain ⟨hb1,hb2⟩:=hb;have hb2:(i'+1)*te.size≤cs.length:=by simpa using hb2
     rw [Nat.succ_mul] at hb2;have hlen:=hl.length;have hE:=hC.ty e te hte;have h0:(0:Int)≤i':=by omega
     have hz:=run_size (w:=w) hE;cases hr:te.k.row with
     | true =>
      simp only [hr,cond_true,Option.some.injEq] at h; subst h;have hp:=run_part (w:=w) (off:=i'*te.size) hE (vs:=vs) (by omega) (fun h=>by rw [hr] at h; cases h);refine ⟨_,?_,by simp only [VR,PR]; exact ⟨_,rfl,(hl.drop (i'*te.size)).take te.size⟩⟩;rw [hr] at hp;simp [execOp,hv,hy,Instr.index,asIntOf,run_underlying (und_arr (hC.ty t ti hti) hk),h0,hb1,hz,hp,vAt]
     | false =>
      simp only [hr,cond_false,Option.map_eq_some_iff] at h;obtain ⟨c,hc,rfl⟩:=h;have hlt:i'*te.size<cs.length:=(List.getElem?_eq_some_iff.1 hc).1;obtain ⟨u,h1,_,h2⟩:=VRL.at (φ:=φ) hl.vrl (i:=i'*te.size) (c:=.pl c) (by rw [List.getElem?_map,hc]; rfl);have hag:(isAgg e).run P w = .ok false w:=by
       obtain ⟨uu,hu,hrr⟩:=und_row hE;exact run_isAgg_no hu (by rw [hrr,hr])
      refine ⟨u,?_,h2⟩;have h3:vs.toArray[i'*te.size]?=some u:=by simpa using h1
      simp [execOp,hv,hy,Instr.index,asIntOf,run_underlying (und_arr (hC.ty t ti hti) hk),h0,hb1,hz,part,hag];simp only [List.getElem?_toArray] at h3;rw [h3]; simp
   ·cases h
  ·cases h
 ·cases h
theorem g_pick{c x y:Operand}{v:AV}{H':Hp}(hρ:∀x,VR w (YOf X φ) φ (ra x) (ρ x))(h:Ql C nid ra H (.pick c x y)=some (v,H')) :
  H'=H∧∃u,(execOp ρ ⟨d,.pick c x y,ty,pos,af,g⟩).run P w = .ok (.value u) w∧VR w (YOf X φ) φ v u:=by
 simp only [Ql] at h
 split at h
 ·rename_i b hb;simp only [Option.some.injEq,Prod.mk.injEq] at h; obtain ⟨rfl,rfl⟩:=h;have hc:=hρ c;rw [hb] at hc;simp only [VR,PR] at hc;refine ⟨rfl,_,x_pick hc rfl,?_⟩;cases b
  ·exact hρ y
  ·exact hρ x
 ·cases h
theorem g_extract{t:Operand}{i:Nat}{v:AV}{H':Hp}(hρ:∀x,VR w (YOf X φ) φ (ra x) (ρ x))(h:Ql C nid ra H (.extract t i)=some (v,H')) :
  H'=H∧∃u,(execOp ρ ⟨d,.extract t i,ty,pos,af,g⟩).run P w = .ok (.value u) w∧VR w (YOf X φ) φ v u:=by
 simp only [Ql] at h
 split at h
 ·rename_i vs hv;simp only [Option.map_eq_some_iff,Prod.mk.injEq] at h;obtain ⟨a,ha,rfl,rfl⟩:=h;have ht:=hρ t;rw [hv] at ht;simp only [VR] at ht;obtain ⟨us,he,hl⟩:=ht;obtain ⟨u,h1,h2⟩:=VRT.at hl ha;exact ⟨rfl,u,x_extract he (by simpa using h1),h2⟩
 ·cases h
theorem x_nilCheckF{x:Operand}{f:Nat}{a b:Array Value}(hx:ρ x = .func (.func f) a b):(execOp ρ ⟨d,.nilCheck x,ty,pos,af,g⟩).run P w = .ok (.value (.func (.func f) a b)) w:=by
 simp [execOp,hx]
theorem g_nilCheck{x:Operand}{v:AV}{H':Hp}(hH:HR X φ H w)(hρ:∀x,VR w (YOf X φ) φ (ra x) (ρ x))(h:Ql C nid ra H (.nilCheck x)=some (v,H')) :
  H'=H∧∃u,(execOp ρ ⟨d,.nilCheck x,ty,pos,af,g⟩).run P w = .ok (.value u) w∧VR w (YOf X φ) φ v u:=by
 simp only [Ql] at h;have hx:=hρ x
 split at h
 ·rename_i f hv;simp only [Option.some.injEq,Prod.mk.injEq] at h; obtain ⟨rfl,rfl⟩:=h;rw [hv] at hx;have hx':=hx;simp only [VR,PR] at hx;exact ⟨rfl,_,x_nilCheckF hx,by rw [←hx]; exact hx'⟩
 ·rename_i f cs hv;simp only [Option.some.injEq,Prod.mk.injEq] at h; obtain ⟨rfl,rfl⟩:=h;rw [hv] at hx;have hx':=hx;simp only [VR] at hx;obtain ⟨us,he,_⟩:=hx;exact ⟨rfl,_,x_nilCheckF he,by rw [←he]; exact hx'⟩
 ·rename_i o i hv;cases ha:alive H o with
  | false=>simp [ha] at h
  | true =>
   simp only [ha,cond_true,Option.some.injEq,Prod.mk.injEq] at h; obtain ⟨rfl,rfl⟩:=h;obtain ⟨_,l,hl⟩:=alive_live hH ha;rw [hv] at hx;have hx':=hx;simp only [VR] at hx;obtain ⟨b,_,he⟩:=hx.2.2 _ l hl;exact ⟨rfl,_,x_nilCheck he,by rw [←he]; exact hx'⟩
 ·rename_i o i j hv;cases ha:alive H o with
  | false=>simp [ha] at h
  | true =>
   simp only [ha,cond_true,Option.some.injEq,Prod.mk.injEq] at h; obtain ⟨rfl,rfl⟩:=h;obtain ⟨_,l,hl⟩:=alive_live hH ha;rw [hv] at hx;have hx':=hx;simp only [VR] at hx;obtain ⟨b,p,_,he⟩:=hx.2.2 _ l hl;exact ⟨rfl,_,x_nilCheck he,by rw [←he]; exact hx'⟩
 ·rename_i c i hv;simp only [Option.some.injEq,Prod.mk.injEq] at h; obtain ⟨rfl,rfl⟩:=h;rw [hv] at hx;have hx':=hx;simp only [VR] at hx;obtain ⟨b,o,he,_⟩:=hx;exact ⟨rfl,_,x_nilCheck he,by rw [←he]; exact hx'⟩
 ·cases h
theorem g_un{op:UnOp}{t:Nat}{x:Operand}{a v:AV}(h:evUn op a=some v)(hx:VR w (YOf X φ) φ a (ρ x)) :
  ∃u,(execOp ρ ⟨d,.unOp op t x,ty,pos,af,g⟩).run P w = .ok (.value u) w∧VR w (YOf X φ) φ v u:=by
 unfold evUn at h
 split at h
 ·simp only [Option.some.injEq] at h; subst h;simp only [VR,PR] at hx;exact ⟨_,by simp [execOp,hx,Op.unary,Op.intArith]; rfl,by simp [VR,PR]⟩
 ·simp only [Option.some.injEq] at h; subst h;simp only [VR,PR] at hx;exact ⟨_,x_not hx,by simp only [VR,PR]⟩
 ·simp only [VR,PR] at hx;rename_i k n;simp only [binI,Option.map_some,Option.some.injEq] at h; subst h;exact ⟨_,by simp [execOp,hx,Op.unary,Op.intBits]; rfl,by simp [VR,PR]⟩
 ·cases h
theorem pre_bytes{b:Nat} : ∀(l:List UInt8)(o:Nat),(∀j c,l[j]?=some c→w.cell? ⟨b,o+j,none⟩=some (.int .u8 (c.toNat:Int)))→PRE w Y b 1 o (l.map fun c=>[.int .u8 (c.toNat:Int)])
 | [],o,_=>by simp only [List.map_nil,PRE]
 | c::l,o,h=>by
  simp only [List.map_cons,PRE,PRC,PR];refine ⟨rfl,⟨⟨_,by simpa using h 0 c rfl,rfl,rfl⟩,trivial⟩,pre_bytes l (o+1) fun j d hd=>?_⟩;have:=h (j+1) d (by simpa using hd)
  rwa [show o+1+j=o+(j+1) from by omega]
theorem bytes_cells{b:Nat} : ∀{es:List (List PV)} {bs:List UInt8} {o:Nat},bytesOf es=some bs→PRE w Y b 1 o es→∃ns:List Int,bs=ns.map (fun n=>UInt8.ofNat n.toNat)∧ns.length=es.length∧∀j n,ns[j]?=some n→w.cell? ⟨b,o+j,none⟩=some (.int .u8 n)
 | [],bs,o,h,_=>by
  simp only [bytesOf,Option.some.injEq] at h; subst h;exact ⟨[],rfl,rfl,fun j n h=>by simp at h⟩
 | e::es,bs,o,h,hp=>by
  unfold bytesOf at h
  split at h
  ·simp at *
  ·rename_i n r heq;simp only [List.cons.injEq] at heq;obtain ⟨rfl,rfl⟩:=heq;obtain ⟨bs',h1,rfl⟩:=Option.map_eq_some_iff.1 h;simp only [PRE,PRC,PR] at hp;obtain ⟨_,⟨⟨v,hv,_,rfl⟩,_⟩,hr⟩:=hp;obtain ⟨ns,rfl,k2,k3⟩:=bytes_cells h1 hr;refine ⟨n::ns,rfl,by simp [k2],fun j m hj=>?_⟩;cases j with
   | zero=>simp at hj; subst hj; simpa using hv
   | succ j =>
    have:=k3 j m (by simpa using hj)
    rwa [show o+(j+1)=o+1+j from by omega]
  ·cases h
theorem fold_push:∀(ns:List Int)(s:ByteArray),(ns.foldl (fun r n=>r.push (UInt8.ofNat n.toNat)) s).data.toList=s.data.toList++ns.map (fun n=>UInt8.ofNat n.toNat)
 | [],s=>by simp
 | n::ns,s=>by rw [List.foldl_cons,fold_push ns]; simp [ByteArray.push]
theorem viewP_vr(hH:HR X φ H w){a:AV}{v:Value}(h:VR w (YOf X φ) φ a v):∃Y',VR w Y' φ (viewP H a) v:=by
 cases a with
 | own o =>
  unfold viewP elems;simp only;cases ho:hget H o with
  | none=>exact ⟨fun _=>False,by simp only [VR]⟩
  | some x =>
   cases x with
   | row z sz es =>
    obtain ⟨z',l,hl,hO⟩:=hH.ob _ _ ho;simp only [OR] at hO;obtain ⟨_,h1,rfl,h3,h4,h5⟩:=hO;simp only [VR] at h;have hv:=h.2.2 _ l hl;refine ⟨fun _=>False,?_⟩;simp only [VR,PR];refine ⟨l.addr 0,l.c,by rw [hv,h1],by rw [←h1]; exact h3,h4,trivial,?_⟩;rcases h5 with ⟨_,h6⟩|⟨b,p,t',cs,hA,hg,hs,hPE,_⟩
    ·exact .inl (by omega)
    ·refine .inr ⟨b,p,by simp [Loc.addr,hA],fun h=>h,(Array.getElem?_eq_some_iff.1 hg).1,?_⟩;exact PRE.stay ⟨Nat.le_refl _,fun _ _ _ _=>rfl,fun b _ h=>h.elim⟩ (fun _ _ h=>h) p es hPE
   | _=>exact ⟨fun _=>False,by simp only [VR]⟩
 | _=>exact ⟨_,h⟩
theorem g_convert{s t:Nat}{x:Operand}{v:AV}{H':Hp}(hC:Qad P C)(hH:HR X φ H w)(hρ:∀x,VR w (YOf X φ) φ (ra x) (ρ x))(h:Ql C nid ra H (.convert s t x)=some (v,H')) :
  Good nid H X φ w v H' ((execOp ρ ⟨d,.convert s t x,ty,pos,af,g⟩).run P w):=by
 simp only [Ql,Option.map_eq_some_iff,Prod.mk.injEq] at h;obtain ⟨v0,h,rfl,rfl⟩:=h;unfold evConv at h;obtain ⟨Y',hx⟩:=viewP_vr hH (hρ x)
 split at h
 ·rename_i ts td k n hs ht hv;rw [hv] at hx;simp only [VR,PR] at hx
  split at h
  ·rename_i k' hk;simp only [Option.some.injEq] at h; subst h;obtain ⟨us,hu,_⟩:=Qci (hC.ty s ts hs);refine Qcj (v':=.int k' (k'.wrap n)) ?_ (by simp only [VR,PR]) hH;cases us<;>simp [execOp,hx,convert,run_underlying hu,run_underlying (und_int (hC.ty t td ht) hk),Conv.intToInt]
  ·cases h
 ·rename_i ts td b hs ht hv;rw [hv] at hx;simp only [VR,PR] at hx;obtain ⟨us,hu,_⟩:=Qci (hC.ty s ts hs)
  split at h
  ·rename_i hk;simp only [Option.some.injEq] at h; subst h;refine Qcj (v':=.string b) ?_ (by simp only [VR,PR]) hH;cases us<;>simp [execOp,hx,convert,run_underlying hu,run_underlying (und_str (hC.ty t td ht) hk)]
  ·rename_i e hk
   split at h
   ·rename_i te hte
    split at h
    ·rename_i hke;cases hb:(Nat.ble b.size 9223372036854775807&&Nat.beq te.size 1) with
     | false=>simp [hb] at h
     | true =>
      simp only [hb,cond_true,Option.some.injEq] at h; subst h;rw [Bool.and_eq_true] at hb;have hmax:b.size≤maxLen:=Nat.le_of_ble_eq_true hb.1;have hlen:(b.data.toList.map fun c=>([.int .u8 (c.toNat:Int)]:List PV)).length=b.size:=by rw [List.length_map]; exact Array.length_toList
      have hrun:=Go.Lib.run_convert_string_bytes (P:=P) w s t e b hu (Qct (hC.ty t td ht) hk) (und_int (hC.ty e te hte) hke);have ev:Ev φ w φ (Go.Lib.bytesWorld w e b):=⟨rfl,rfl,⟨rfl,by unfold Go.Lib.bytesWorld; exact Nat.le_succ _⟩,by rw [Go.Lib.bytesWorld_size]; omega,fun q hq _=>Go.Lib.bytesWorld_at_old w e b q hq,fun _ _ h=>h,fun _ _=>.inl rfl⟩;have hnY:¬YOf X φ w.heap.size:=fun hc=>by
       rcases hc with hc | ⟨o,l,p,ho,hA⟩
       ·exact absurd (hH.xlt _ hc) (Nat.lt_irrefl _)
       ·exact absurd (hH.out o l _ p ho hA).2 (Nat.lt_irrefl _)
      refine ⟨_,.slice (some ⟨w.heap.size,0,none⟩) b.size (grownCap w b.size 0 e),Go.Lib.bytesWorld w e b,φ,by simp [execOp,hx,hrun,Result.andThen],.inl rfl,?_,?_,ev,Nat.le_refl _,fun _ _ h=>h⟩
      ·simp only [VR,PR,flOk];refine ⟨some ⟨w.heap.size,0,none⟩,grownCap w b.size 0 e,by rw [hlen],by rw [hlen]; exact grownCap_ge w b.size 0 e,grownCap_le_maxLen w _ _ e hmax,trivial,.inr ⟨w.heap.size,0,rfl,hnY,by rw [Go.Lib.bytesWorld_size]; omega,pre_bytes _ 0 fun j c hj=>?_⟩⟩;have hjl:j<b.size:=by have:=(List.getElem?_eq_some_iff.1 hj).1; rw [Array.length_toList] at this; exact this
       rw [Nat.zero_add,Go.Lib.bytesWorld_cell w e b j hjl,List.getD,hj]; rfl
      ·exact hH.next ev hH.fresh hH.live (fun o x hx=>.inl ⟨hx,rfl,fun l q p hl hA=>Go.Lib.bytesWorld_at_old w e b q (hH.out o l q p hl hA).2⟩) (fun o l q p ho _=>.inl ho)
    ·cases h
   ·cases h
  ·cases h
 ·rename_i ts td f sz es hs ht hv;rw [hv] at hx;simp only [VR,PR] at hx;obtain ⟨A,c,hxv,hle,hc,_,hA⟩:=hx
  split at h
  ·rename_i e hk hks
   split at h
   ·rename_i te hte
    split at h
    ·rename_i bs hke hbs;cases hb:Nat.beq sz 1 with
     | false=>simp [hb] at h
     | true =>
      simp only [hb,cond_true,Option.some.injEq] at h; subst h;have hrun:(Conv.bytesToString (ρ x)).run P w = .ok (.string ⟨bs.toArray⟩) w:=by
       rw [hxv];cases A with
       | none =>
        have:es.length=0:=hA.elim id fun ⟨b,o,e,_⟩=>by cases e
        have he:es=[]:=List.eq_nil_of_length_eq_zero this;subst he;simp only [bytesOf,Option.some.injEq] at hbs; subst hbs;rfl
       | some a =>
        rcases hA with h0 | ⟨b,o,e,_,_,hpre⟩
        ·have he:es=[]:=List.eq_nil_of_length_eq_zero h0;subst he;simp only [bytesOf,Option.some.injEq] at hbs; subst hbs;exact run_bytesToString (P:=P) w a 0 c [] (run_loadCells_list w a [] (fun j v h=>by simp at h))
        ·cases e;have hsz:sz=1:=Nat.eq_of_beq_eq_true hb;subst hsz;obtain ⟨ns,k1,k2,k3⟩:=bytes_cells hbs hpre;have hl:=run_loadCells_list (P:=P) w ⟨b,o,none⟩ (ns.map (Value.int .u8)) (fun j v hj=>by
          rw [List.getElem?_map] at hj;cases hn:ns[j]? with
          | none=>rw [hn] at hj; cases hj
          | some n =>
           rw [hn] at hj; simp only [Option.map_some,Option.some.injEq] at hj; subst hj;have:=k3 j n hn;unfold Addr.add
           split
           ·rename_i h0; subst h0; simpa using this
           ·exact this)
         rw [List.length_map,k2] at hl;rw [run_bytesToString w ⟨b,o,none⟩ es.length c ns hl,k1]
         congr 2
         exact bytes_eq (by rw [fold_push]; simp)
      refine Qcj (v':=.string ⟨bs.toArray⟩) ?_ (by simp only [VR,PR]) hH;have hcv:=run_convert_bytes_string (P:=P) w s t e A es.length c (Qct (hC.ty s ts hs) hks) (und_int (hC.ty e te hte) hke) (und_str (hC.ty t td ht) hk);rw [hxv] at hrun;simp [execOp,hxv,hcv,hrun,Result.andThen]
    ·cases h
   ·cases h
  ·cases h
 ·cases h
theorem vrt_of(hρ:∀x,VR w Y φ (ra x) (ρ x)):∀xs:List Operand,VRT w Y φ (xs.map ra) (xs.map ρ)
 | []=>by simp [VRT]
 | x::xs=>by simp only [List.map_cons,VRT]; exact ⟨_,_,rfl,hρ x,vrt_of hρ xs⟩
theorem g_makeFunc{fn:Fn}{first cs:Array Operand}{v:AV}{H':Hp}(hρ:∀x,VR w (YOf X φ) φ (ra x) (ρ x))(h:Ql C nid ra H (.makeFunc fn first cs)=some (v,H')) :
  H'=H∧∃u,(execOp ρ ⟨d,.makeFunc fn first cs,ty,pos,af,g⟩).run P w = .ok (.value u) w∧VR w (YOf X φ) φ v u:=by
 obtain ⟨f,rfl⟩:∃f,fn = .func f:=by cases fn<;>first | exact ⟨_,rfl⟩ | cases h
 simp only [Ql] at h;cases hf:first.isEmpty with
 | false=>simp [hf] at h
 | true =>
  simp only [hf,cond_true] at h;have hfe:first = #[]:=Array.isEmpty_iff.1 hf
  subst hfe;have hvs:=vrt_of (w:=w) (Y:=YOf X φ) (φ:=φ) hρ cs.toList;have hmap:cs.map ρ=(cs.toList.map ρ).toArray:=by rw [←List.map_toArray]
  split at h
  ·rename_i hnil;simp only [Option.some.injEq,Prod.mk.injEq] at h; obtain ⟨rfl,rfl⟩:=h;have hcs:cs = #[]:=by
    have:cs.toList=[]:=List.map_eq_nil_iff.1 hnil;exact Array.toList_eq_nil_iff.1 this
   subst hcs;exact ⟨rfl,.func (.func f) #[] #[],x_makeFunc (by simp) (by simp),by simp only [VR,PR]⟩
  ·simp only [Option.some.injEq,Prod.mk.injEq] at h; obtain ⟨rfl,rfl⟩:=h;exact ⟨rfl,_,x_makeFunc (fs:=#[]) (by simp) hmap,by simp only [VR]; exact ⟨_,rfl,hvs⟩⟩
end
end Go.Proofs.Ytbgjlpdeoljmiaa
namespace Go.Proofs.Ytbgjlpdeoljmiaa
set_option linter.unusedSimpArgs false
set_option linter.unusedVariables false
open Go.RowKit
section
variable {P:Program} {C:Cfg} {w w':World} {Y X:Nat→Prop} {φ:Phi} {H:Hp}
variable {ρ:Operand→Value} {ra:Operand→AV} {d:Option Tmp} {ty:TypeId} {pos:String} {af:Array Edge} {g:Option (Nat×Bool)}
def optV:Option Nat→Option Value→Prop
 | none,none=>True
 | some n,some v=>∃k,v = .int k (n:Int)
 | _,_=>False
theorem optV_of(hρ:∀x,VR w Y φ (ra x) (ρ x)){o:Option Operand}{n:Option Nat}(h:optNat (o.map ra)=some n):optV n (o.map ρ):=by
 cases o with
 | none=>simp [optNat] at h; subst h; trivial
 | some x =>
  have hx:=hρ x;simp only [Option.map_some] at h;unfold optNat at h
  split at h
  ·simp at *
  ·rename_i k m heq;simp only [Option.some.injEq] at heq;simp only [Option.map_eq_some_iff] at h;obtain ⟨q,hq,rfl⟩:=h;rw [heq] at hx;simp only [VR,PR] at hx;exact ⟨k,by rw [hx,natOf_eq hq]⟩
  ·cases h
theorem Qbt{n y:Nat}{k:IntKind}{c:BoundsCode}(h:n≤y):(Instr.sliceBound (.int k (n:Int)) y c).run P w = .ok n w:=by
 have h0:(0:Int)≤n:=by omega
 simp [Instr.sliceBound,asIntOf,h0,h]
theorem run_sliceBound0{y:Nat}{k:IntKind}{c:BoundsCode} : (Instr.sliceBound (.int k 0) y c).run P w = .ok 0 w:=Qbt (n:=0) (Nat.zero_le y)
theorem run_bounds{isS:Bool}{len cap:Nat}{lo hi:Option Nat}{vl vh:Option Value}(hl:optV lo vl)(hh:optV hi vh)(h1:lo.getD 0≤hi.getD len)(h2:hi.getD len≤cap) :
  (Instr.sliceBounds isS len cap vl vh none).run P w = .ok (lo.getD 0,hi.getD len,cap) w:=by
 cases lo with
 | none =>
  cases vl with
  | some v=>exact hl.elim
  | none =>
   cases hi with
   | none=>cases vh with
    | some v=>exact hh.elim
    | none=>simp [Instr.sliceBounds]
   | some h=>cases vh with
    | none=>exact hh.elim
    | some v=>obtain ⟨k,rfl⟩:=hh; simp only [Option.getD_some] at h2; simp [Instr.sliceBounds,Qbt h2]
 | some l =>
  cases vl with
  | none=>exact hl.elim
  | some v =>
   obtain ⟨k,rfl⟩:=hl;cases hi with
   | none=>cases vh with
    | some v=>exact hh.elim
    | none=>simp only [Option.getD_some,Option.getD_none] at h1; simp [Instr.sliceBounds,Qbt h1]
   | some h=>cases vh with
    | none=>exact hh.elim
    | some v=>obtain ⟨k',rfl⟩:=hh; simp only [Option.getD_some] at h1 h2; simp [Instr.sliceBounds,Qbt h1,Qbt h2]
theorem run_bounds3{isS:Bool}{len cap m:Nat}{lo hi:Option Nat}{vl vh vm:Option Value}(hl:optV lo vl)(hh:optV hi vh)(hm:optV (some m) vm)(h1:lo.getD 0=m)(h2:hi.getD (m+1)=m)(h3:m≤cap) :
  (Instr.sliceBounds isS len cap vl vh vm).run P w = .ok (m,m,m) w:=by
 cases vm with
 | none=>exact hm.elim
 | some v =>
  obtain ⟨k,rfl⟩:=hm;cases hi with
  | none=>simp at h2
  | some h =>
   cases vh with
   | none=>exact hh.elim
   | some v =>
    obtain ⟨k',rfl⟩:=hh;simp only [Option.getD_some] at h2; subst h2;cases lo with
    | none =>
     cases vl with
     | some v=>exact hl.elim
     | none=>simp only [Option.getD_none] at h1; subst h1; simp [Instr.sliceBounds,run_sliceBound0]
    | some l =>
     cases vl with
     | none=>exact hl.elim
     | some v =>
      obtain ⟨k'',rfl⟩:=hl;simp only [Option.getD_some] at h1; subst h1;simp [Instr.sliceBounds,Qbt h3,Qbt (Nat.le_refl _)]
theorem x_slice{t e:Nat}{te:TI}{x:Operand}{lo hi mx:Option Operand}{A:Option Addr}{len cap l h m:Nat}(ht:P.underlying t=some (.slice e))(he:Qcn P e te=true)(hx:ρ x = .slice A len cap)
  (hb:(Instr.sliceBounds true len cap (lo.map ρ) (hi.map ρ) (mx.map ρ)).run P w = .ok (l,h,m) w) :
  (execOp ρ ⟨d,.slice t x lo hi mx,ty,pos,af,g⟩).run P w = .ok (.value (.slice (if m=l then A else A.map (·.add (l*te.size))) (h-l) (m-l))) w:=by
 have hs:=run_size (w:=w) he;simp [execOp,hx,Instr.sliceAt,Instr.slice,run_underlying ht,hb,hs]
theorem x_sliceS{t:Nat}{x:Operand}{lo hi:Option Operand}{s:ByteArray}{l h m:Nat}(ht:P.underlying t=some .string)(hx:ρ x = .string s)
  (hb:(Instr.sliceBounds false s.size s.size (lo.map ρ) (hi.map ρ) none).run P w = .ok (l,h,m) w) :
  (execOp ρ ⟨d,.slice t x lo hi none,ty,pos,af,g⟩).run P w = .ok (.value (.string (s.extract l h))) w:=by
 simp [execOp,hx,Instr.sliceAt,Instr.slice,run_underlying ht,hb]
theorem ble_t{a b:Nat}(h:Nat.ble a b=true):a≤b:=by simpa using h
theorem vw_ok{zz:Bool}{o off n m lc:Nat}{l:Loc}{lo hi:Option Nat}{a:AV}{A0:Option Addr}(hl:φ o = .at zz l)(h:vwOf o off n m lo hi=some a)(hn:off+m≤l.n)(hc:lc+off=l.c)(hnc:l.n≤l.c)(hA:0<lc→A0=l.addr off∧A0≠none) :
  lo.getD 0≤hi.getD n∧hi.getD n≤lc∧VR w Y φ a (.slice (if lc=lo.getD 0 then A0 else A0.map (·.add (lo.getD 0*l.sz))) (hi.getD n-lo.getD 0) (lc-lo.getD 0)):=by
 unfold vwOf at h;cases hb:(Nat.ble (lo.getD 0) (hi.getD n)&&Nat.ble (hi.getD n) m) with
 | false=>simp [hb] at h
 | true =>
  simp only [hb,cond_true,Option.some.injEq] at h; subst h;rw [Bool.and_eq_true] at hb;have h1:=ble_t hb.1;have h2:=ble_t hb.2;refine ⟨h1,by omega,?_⟩;simp only [VR];refine ⟨rfl,(by rw [hl]; intro k; cases k),fun _ l' hl'=>?_⟩;rw [hl] at hl'; cases hl';refine ⟨_,_,rfl,by omega,by omega,fun hpos=>?_⟩;rw [if_neg (by omega)];obtain ⟨h3,h4⟩:=hA (by omega);rw [h3] at h4 ⊢;unfold Loc.addr at h4 ⊢;cases hA':l.A with
  | none=>simp [hA'] at h4
  | some a =>
   simp only [Option.map_some,Addr.add_mid];exact ⟨by rw [Nat.add_mul,Nat.add_assoc],by simp⟩
theorem g_slice{t:Nat}{x:Operand}{lo hi mx:Option Operand}{v:AV}(hC:Qad P C)(hH:HR X φ H w)(hρ:∀x,VR w (YOf X φ) φ (ra x) (ρ x))(h:evSlice C H t (ra x) (lo.map ra) (hi.map ra) (mx.map ra)=some v) :
  ∃u,(execOp ρ ⟨d,.slice t x lo hi mx,ty,pos,af,g⟩).run P w = .ok (.value u) w∧VR w (YOf X φ) φ v u:=by
 unfold evSlice at h;have hx:=hρ x
 split at h
 ·rename_i ti lo' hi' mx' hti hlo hhi hmx;have vlo:=optV_of hρ hlo;have vhi:=optV_of hρ hhi;have vmx:=optV_of hρ hmx;have mxn:mx'=none→mx.map ρ=none:=fun e=>by
   subst e;cases hm:mx with
   | none=>rfl
   | some q=>rw [hm] at vmx; exact vmx.elim
  split at h
  ·rename_i hk
   split at h
   ·rename_i s hv;rw [hv] at hx;simp only [VR,PR] at hx;have hmn:=mxn rfl;have:mx=none:=by cases mx<;>simp_all
    subst this;cases hb:(Nat.ble (lo'.getD 0) (hi'.getD s.size)&&Nat.ble (hi'.getD s.size) s.size) with
    | false=>simp [hb] at h
    | true =>
     simp only [hb,cond_true,Option.some.injEq] at h; subst h;rw [Bool.and_eq_true] at hb;refine ⟨_,x_sliceS (und_str (hC.ty t ti hti) hk) hx (run_bounds vlo vhi (ble_t hb.1) (ble_t hb.2)),?_⟩;simp only [VR,PR]
     congr 1
     apply bytes_eq
     rw [ByteArray.data_extract];simp [List.drop_take]
   ·cases h
  ·rename_i e hk;have hu:=Qct (hC.ty t ti hti) hk
   split at h
   ·cases h
   ·rename_i te hte;have hE:=hC.ty e te hte
    split at h
    ·rename_i sz es hv;cases hb:(Nat.beq (lo'.getD 0) 0&&Nat.beq (hi'.getD 0) 0) with
     | false=>simp [hb] at h
     | true =>
      simp only [hb,cond_true,Option.some.injEq] at h; subst h;rw [Bool.and_eq_true,Nat.beq_eq,Nat.beq_eq] at hb;rw [hv] at hx;simp only [VR,PR,flOk] at hx;obtain ⟨A,c,he,h1,h2,⟨rfl,rfl⟩,h3⟩:=hx;have hl0:es.length=0:=by omega
      rw [hl0] at he;have hmn:=mxn rfl;refine ⟨_,x_slice hu hE he (by rw [hmn]; exact run_bounds vlo vhi (by omega) (by omega)),?_⟩;simp only [VR,PR,flOk];refine ⟨none,0,?_,by omega,by simp [maxLen],⟨rfl,rfl⟩,.inl hl0⟩;rw [hb.1,hb.2,hl0]; simp
    ·rename_i sz es m hv;cases hb:(Nat.beq (lo'.getD 0) 0&&Nat.beq (hi'.getD 1) 0&&Nat.beq m 0) with
     | false=>simp [hb] at h
     | true =>
      simp only [hb,cond_true,Option.some.injEq] at h; subst h;rw [Bool.and_eq_true,Bool.and_eq_true,Nat.beq_eq,Nat.beq_eq,Nat.beq_eq] at hb;obtain ⟨⟨hb1,hb2⟩,rfl⟩:=hb;rw [hv] at hx;simp only [VR,PR,flOk] at hx;obtain ⟨A,c,he,h1,h2,⟨rfl,rfl⟩,h3⟩:=hx;have hl0:es.length=0:=by omega
      rw [hl0] at he;refine ⟨_,x_slice hu hE he (run_bounds3 vlo vhi vmx hb1 hb2 (Nat.le_refl _)),?_⟩;simp only [VR,PR,flOk];refine ⟨none,0,?_,by omega,by simp [maxLen],⟨rfl,rfl⟩,.inl hl0⟩;rw [hl0]; simp
    ·rename_i f sz es _ hv;cases hsz:Nat.beq sz te.size with
     | false=>simp [hsz] at h
     | true =>
      rw [Nat.beq_eq] at hsz; subst hsz;cases hb:(Nat.ble (lo'.getD 0) (hi'.getD es.length)&&Nat.ble (hi'.getD es.length) es.length) with
      | false=>simp [hb] at h
      | true =>
       simp [hb] at h; subst h;rw [Bool.and_eq_true] at hb;have hb1:=ble_t hb.1;have hb2:=ble_t hb.2;rw [hv] at hx;simp only [VR,PR] at hx;obtain ⟨A,c,he,h1,h2,_,h3⟩:=hx;have hmn:=mxn rfl;refine ⟨_,x_slice hu hE he (by rw [hmn]; exact run_bounds vlo vhi hb1 (by omega)),?_⟩;simp only [VR,PR];have hlen:((takeO hi' es).drop (lo'.getD 0)).length=hi'.getD es.length-lo'.getD 0:=by
        cases hi' with
        | none=>simp [takeO]
        | some q=>simp [takeO] at hb2 ⊢; omega
       refine ⟨_,c-lo'.getD 0,by rw [hlen],by omega,by omega,trivial,?_⟩;rw [hlen];rcases Nat.eq_zero_or_pos (hi'.getD es.length-lo'.getD 0) with h0 | hpos
       ·exact .inl h0
       ·rcases h3 with h3 | ⟨b,o,rfl,hY,hlt,hPE⟩
        ·omega
        ·right
         rw [if_neg (by omega)];refine ⟨b,o+lo'.getD 0*te.size,by simp [Addr.add_mid],hY,hlt,PRE.drop ?_ _⟩;cases hi' with
         | none=>exact hPE
         | some q=>exact hPE.take q
    ·rename_i f sz es m _ hv;cases hb:(Nat.beq (lo'.getD 0) m&&Nat.beq (hi'.getD (m+1)) m&&Nat.ble m es.length) with
     | false=>simp [hb] at h
     | true =>
      simp only [hb,cond_true,Option.some.injEq] at h; subst h;rw [Bool.and_eq_true,Bool.and_eq_true,Nat.beq_eq,Nat.beq_eq] at hb;obtain ⟨⟨hb1,hb2⟩,hb3⟩:=hb;have hb3:=ble_t hb3;rw [hv] at hx;simp only [VR,PR] at hx;obtain ⟨A,c,he,h1,h2,_,h3⟩:=hx;refine ⟨_,x_slice hu hE he (run_bounds3 vlo vhi vmx hb1 hb2 (by omega)),?_⟩;simp only [VR,PR,flOk];exact ⟨A,0,by simp,by simp,by simp [maxLen],rfl,.inl rfl⟩
    ·rename_i o hv
     split at h
     ·rename_i fz sz es ho;cases hsz:Nat.beq sz te.size with
      | false=>simp [hsz] at h
      | true =>
       simp only [hsz,cond_true] at h;rw [Nat.beq_eq] at hsz; subst hsz;obtain ⟨z,l,hl,hO⟩:=hH.ob _ _ ho;rw [hv] at hx;simp only [VR] at hx;have he:=hx.2.2 _ l hl;simp only [OR] at hO;obtain ⟨hz,h1,h2,h3,h4,h5⟩:=hO;have hmn:=mxn rfl;obtain ⟨k1,k2,k3⟩:=vw_ok (w:=w) (Y:=YOf X φ) (A0:=l.addr 0) (lc:=l.c) hl h (by omega) (by omega) h3 (fun hc=>⟨rfl,by
        rcases h5 with ⟨_,h6⟩|⟨b,p,t,cs,hAl,_⟩
        ·omega
        ·simp [Loc.addr,hAl]⟩)
       rw [h1] at he;refine ⟨_,x_slice hu hE he (by rw [hmn]; exact run_bounds vlo vhi k1 (by omega)),?_⟩;rw [←h2]; exact k3
     ·cases h
    ·rename_i o m hv
     split at h
     ·rename_i fz sz es ho;cases hb:(Nat.beq (lo'.getD 0) m&&Nat.beq (hi'.getD (m+1)) m&&Nat.ble m es.length) with
      | false=>simp [hb] at h
      | true =>
       simp only [hb,cond_true,Option.some.injEq] at h; subst h;rw [Bool.and_eq_true,Bool.and_eq_true,Nat.beq_eq,Nat.beq_eq] at hb;obtain ⟨⟨hb1,hb2⟩,hb3⟩:=hb;have hb3:=ble_t hb3;obtain ⟨z,l,hl,hO⟩:=hH.ob _ _ ho;rw [hv] at hx;simp only [VR] at hx;have he:=hx.2.2 _ l hl;simp only [OR] at hO;obtain ⟨hz,h1,h2,h3,h4,h5⟩:=hO;refine ⟨_,x_slice hu hE he (run_bounds3 vlo vhi vmx hb1 hb2 (by omega)),?_⟩;simp only [VR,PR,flOk];exact ⟨l.addr 0,0,by simp,by simp,by simp [maxLen],rfl,.inl rfl⟩
     ·cases h
    ·rename_i o off len hv
     split at h
     ·rename_i fz sz es ho;cases hsz:(Nat.beq sz te.size&&Nat.ble off es.length) with
      | false=>simp [hsz] at h
      | true =>
       simp only [hsz,cond_true] at h;rw [Bool.and_eq_true,Nat.beq_eq] at hsz;obtain ⟨hsz,hoff⟩:=hsz;have hoff:=ble_t hoff;subst hsz;obtain ⟨z,l,hl,hO⟩:=hH.ob _ _ ho;rw [hv] at hx;simp only [VR] at hx;obtain ⟨A,c,he,hle,hc,hA⟩:=hx.2.2 _ l hl;simp only [OR] at hO;obtain ⟨hz,h1,h2,h3,h4,h5⟩:=hO;have hmn:=mxn rfl;obtain ⟨k1,k2,k3⟩:=vw_ok (w:=w) (Y:=YOf X φ) hl h (by omega) hc h3 hA;refine ⟨_,x_slice hu hE he (by rw [hmn]; exact run_bounds vlo vhi k1 k2),?_⟩;rw [←h2]; exact k3
     ·cases h
    ·cases h
  ·cases h
 ·cases h
theorem allPl_eq:∀{cs:List AV} {ps:List PV},arPl cs=some ps→cs=ps.map .pl
 | [],ps,h=>by simp only [arPl,Option.some.injEq] at h; subst h; rfl
 | c::r,ps,h=>by
  unfold arPl at h
  split at h
  ·rename_i heq; cases heq
  ·rename_i p r' heq;obtain ⟨rfl,rfl⟩:=List.cons.inj heq
   split at h
   ·rename_i l hl;simp only [Option.some.injEq] at h; subst h;rw [allPl_eq hl]; rfl
   ·cases h
  ·cases h
theorem x_sliceA{t e m:Nat}{te:TI}{x:Operand}{lo hi:Option Operand}{b l h:Nat}(ht:P.underlying t=some (.array m e))(he:Qcn P e te=true)(hx:ρ x = .pointer (some ⟨b,0,none⟩))
  (hb:(Instr.sliceBounds false m m (lo.map ρ) (hi.map ρ) none).run P w = .ok (l,h,m) w) :
  (execOp ρ ⟨d,.slice t x lo hi none,ty,pos,af,g⟩).run P w = .ok (.value (.slice (some (if m=l then ⟨b,0,none⟩ else (⟨b,0,none⟩:Addr).add (l*te.size))) (h-l) (m-l))) w:=by
 have hs:=run_size (w:=w) he;simp [execOp,hx,Instr.sliceAt,Instr.sureAddr,run_underlying ht,hb,hs]
theorem arr_pre{b:Nat}{t:TypeId}{vs:List Value} (hg:w.heap[b]?=some (.cells vs.toArray t (0,0))) {ps:List PV} (h:VRL w Y φ (ps.map .pl) vs):PRE w Y b 1 0 (ps.map fun p=>[p]):=by
 refine PRE.of fun i e hi=>?_;rw [List.getElem?_map] at hi;obtain ⟨p,hp,rfl⟩:=Option.map_eq_some_iff.1 hi;refine ⟨rfl,?_⟩;obtain ⟨v,hv,ho,hpv⟩:=h.at (i:=i) (c:=.pl p) (by rw [List.getElem?_map,hp]; rfl);simp only [PRC];refine ⟨⟨v,by simp [World.cell?,hg,hv],(by cases p<;>first | rfl | (cases ho)),by simpa only [VR] using hpv⟩,trivial⟩
theorem g_sliceA{nid t:Nat}{x:Operand}{lo hi mx:Option Operand}{v:AV}{H':Hp}(hC:Qad P C)(hH:HR X φ H w)(hρ:∀x,VR w (YOf X φ) φ (ra x) (ρ x))(h:evSliceA C H t (ra x) (lo.map ra) (hi.map ra) (mx.map ra)=some (v,H')) :
  Good nid H X φ w v H' ((execOp ρ ⟨d,.slice t x lo hi mx,ty,pos,af,g⟩).run P w):=by
 unfold evSliceA at h;have hx:=hρ x
 split at h
 ·rename_i o i hxo hmx;have hmn:mx=none:=by cases mx with | none=>rfl | some q=>cases hmx
  subst hmn
  split at h
  ·rename_i ti lo' hi' bt cs hti hlo hhi ho;have vlo:=optV_of hρ hlo;have vhi:=optV_of hρ hhi
   split at h
   ·rename_i m e hk
    split at h
    ·rename_i te ps hte hps;cases hb:(Nat.beq i 0&&Nat.beq te.size 1&&Nat.beq ps.length m&&Nat.ble m maxLen&&Nat.ble (lo'.getD 0) (hi'.getD m)&&Nat.ble (hi'.getD m) m) with
     | false=>rw [hb] at h; cases h
     | true =>
      rw [hb,cond_true] at h;simp only [Option.some.injEq,Prod.mk.injEq] at h; obtain ⟨rfl,rfl⟩:=h;simp only [Bool.and_eq_true,Nat.beq_eq] at hb;obtain ⟨⟨⟨⟨⟨rfl,hsz⟩,rfl⟩,hml⟩,h1⟩,h2⟩:=hb;have h1:=ble_t h1;have h2:=ble_t h2;have hml:=ble_t hml;obtain rfl:=allPl_eq hps;obtain ⟨z,l,hl,hO⟩:=hH.ob _ _ ho;simp only [OR] at hO;obtain ⟨rfl,b,vs,hA,hg,hvs⟩:=hO;rw [hxo] at hx;simp only [VR] at hx;obtain ⟨b',hA',hv⟩:=hx.2.2 _ _ hl;rw [hA] at hA'; cases hA';have hrun:=x_sliceA (w:=w) (d:=d) (ty:=ty) (pos:=pos) (af:=af) (g:=g) (und_arr (hC.ty t ti hti) hk) (hC.ty e te hte) hv (run_bounds vlo vhi h1 h2);have ev:Ev φ w (φ.set o .dead) w:=Ev.kill o (by rw [hl]; intro h; cases h);have hlt:b<w.heap.size:=(Array.getElem?_eq_some_iff.1 hg).1;have hnb:¬YOf X (φ.set o .dead) b:=by
       rintro (hX | ⟨o',l',p',ho',hA2⟩)
       ·exact (hH.out _ _ _ _ hl (.inl hA)).1 hX
       ·by_cases e:o'=o
        ·subst e; rw [Phi.set_self] at ho'; cases ho'
        ·rw [Phi.set_ne e] at ho';exact e (hH.inj _ _ _ _ _ _ _ ho' hl hA2 (.inl hA))
      have hpre:=arr_pre (Y:=YOf X (φ.set o .dead)) hg (VRL.stay ev X _ _ hvs);refine ⟨_,_,w,φ.set o .dead,hrun,.inl rfl,?_,hH.kill hl,ev,by rw [Qv]; exact Nat.le_refl _,fun k _ hk=>by
       rw [Phi.set_ne (fun e=>by rw [e,hl] at hk; cases hk)]; exact hk⟩
      simp only [VR,PR];have htk:((takeO hi' ps).drop (lo'.getD 0)).map (fun p=>[p])=((ps.map fun p=>[p]).take (hi'.getD ps.length)).drop (lo'.getD 0):=by
       cases hi' with
       | none =>
        have e:(ps.map fun p=>[p]).take ((none:Option Nat).getD ps.length)=ps.map fun p=>[p]:=List.take_of_length_le (by simp);rw [e,List.map_drop]; rfl
       | some q =>
        show ((ps.take q).drop (lo'.getD 0)).map (fun p=>[p])=((ps.map fun p=>[p]).take q).drop (lo'.getD 0);rw [List.map_drop,List.map_take]
      rw [htk];have hlen:(((ps.map fun p=>[p]).take (hi'.getD ps.length)).drop (lo'.getD 0)).length=hi'.getD ps.length-lo'.getD 0:=by simp; omega
      refine ⟨_,_,by rw [hlen],by rw [hlen]; omega,by omega,trivial,?_⟩;rw [hlen];rcases Nat.eq_zero_or_pos (hi'.getD ps.length-lo'.getD 0) with h0 | hpos
      ·exact .inl h0
      ·refine .inr ⟨b,lo'.getD 0,?_,hnb,hlt,?_⟩
       ·rw [if_neg (by omega),hsz];rw [show (⟨b,0,none⟩:Addr).add (lo'.getD 0*1)=⟨b,lo'.getD 0,none⟩ by unfold Addr.add; simp; omega]
       ·have:=(hpre.take (hi'.getD ps.length)).drop (lo'.getD 0);simpa using this
    ·cases h
   ·cases h
  ·cases h
 ·cases h
end
end Go.Proofs.Ytbgjlpdeoljmiaa
namespace Go.Proofs.Ytbgjlpdeoljmiaa
set_option linter.unusedSimpArgs false
set_option linter.unusedVariables false
open Go.RowKit
section
variable {P:Program} {C:Cfg} {w w':World} {Y X:Nat→Prop} {φ:Phi} {H:Hp}
variable {ρ:Operand→Value} {ra:Operand→AV} {d:Option Tmp} {ty:TypeId} {pos:String} {af:Array Edge} {g:Option (Nat×Bool)}
theorem x_bi{b:Builtin}{args:Array Operand}{ts:Array TypeId}{v:Value}{f:Array TypeId→TypeId→Array Value→Sem Value} (hb:∀ts ty cs args,builtin b ts ty cs args=(do pure (.value (←f ts ty args)))) (h:(f ts ty (args.map ρ)).run P w = .ok v w') :
  (execOp ρ ⟨d,.call { callee:=.builtin b,args:=args,argTypes:=ts },ty,pos,af,g⟩).run P w = .ok (.value v) w':=by
 simp [execOp,resolve,invoke,hb,h]
theorem MR.length:∀{i:Nat} {kvs:List (PV×PV)} {es:List MapEntry},MR w Y i kvs es→es.length=kvs.length
 | _,[],es,h=>by simp only [MR] at h; subst h; rfl
 | i,(k,x)::r,es,h=>by
  simp only [MR] at h;obtain ⟨e,es',rfl,_,_,_,hr⟩:=h;simp [MR.length hr]
theorem elems_ok(hH:HR X φ H w){a:AV}{sz:Nat}{es:List (List PV)}{v:Value}(h:elems H a=some (sz,es))(hv:VR w (YOf X φ) φ a v) :
  ∃A c,v = .slice A es.length c∧es.length≤c∧c≤maxLen∧(es.length=0∨∃b o,A=some ⟨b,o,none⟩∧PRE w (YOf X φ) b sz o es):=by
 unfold elems at h
 split at h
 ·simp only [Option.some.injEq,Prod.mk.injEq] at h; obtain ⟨rfl,rfl⟩:=h;simp only [VR,PR] at hv;obtain ⟨A,c,rfl,h1,h2,_,h3⟩:=hv;exact ⟨A,c,rfl,h1,h2,h3.imp id fun ⟨b,o,hA,_,_,hE⟩=>⟨b,o,hA,hE⟩⟩
 ·split at h
  ·rename_i fz sz es ho;simp only [Option.some.injEq,Prod.mk.injEq] at h; obtain ⟨rfl,rfl⟩:=h;obtain ⟨z,l,hl,hO⟩:=hH.ob _ _ ho;simp only [VR] at hv;have he:=hv.2.2 _ l hl;simp only [OR] at hO;obtain ⟨hz,h1,h2,h3,h4,h5⟩:=hO;rw [h1] at he;refine ⟨_,_,he,by omega,h4,?_⟩;rcases h5 with ⟨_,h6⟩|⟨b,p,t,cs,hA,_,_,hE,_⟩
   ·exact .inl (by omega)
   ·exact .inr ⟨b,p,by simp [Loc.addr,hA],hE⟩
  ·cases h
 ·rename_i o off len
  split at h
  ·rename_i fz sz es ho;cases hb:Nat.ble (off+len) es.length with
   | false=>simp [hb] at h
   | true =>
    simp only [hb,cond_true,Option.some.injEq,Prod.mk.injEq] at h; obtain ⟨rfl,rfl⟩:=h;have hb:=ble_t hb;obtain ⟨z,l,hl,hO⟩:=hH.ob _ _ ho;simp only [VR] at hv;obtain ⟨A,c,he,hle,hc,hA0⟩:=hv.2.2 _ l hl;simp only [OR] at hO;obtain ⟨hz,h1,h2,h3,h4,h5⟩:=hO;have hlen:((es.drop off).take len).length=len:=by simp; omega
    refine ⟨A,c,by rw [hlen]; exact he,by rw [hlen]; omega,by omega,?_⟩;rw [hlen];rcases Nat.eq_zero_or_pos len with h0 | hpos
    ·exact .inl h0
    ·rcases h5 with ⟨_,h6⟩|⟨b,p,t,cs,hA,_,_,hE,_⟩
     ·omega
     ·obtain ⟨hA1,_⟩:=hA0 (by omega);exact .inr ⟨b,p+off*sz,by rw [hA1]; simp [Loc.addr,hA,h2],(hE.drop off).take len⟩
  ·cases h
 ·cases h
theorem g_len{t n:Nat}{x:Operand}{a:AV}(hC:Qad P C)(hH:HR X φ H w)(h:lenA C H t a=some n)(hx:VR w (YOf X φ) φ a (ρ x)) :
  (execOp ρ ⟨d,.call { callee:=.builtin .len,args:=#[x],argTypes:=#[t] },ty,pos,af,g⟩).run P w = .ok (.value (.int .i64 (n:Int))) w:=by
 have key:∀v,(Builtin.len_ #[t] ty #[ρ x]).run P w = .ok v w→(execOp ρ ⟨d,.call { callee:=.builtin .len,args:=#[x],argTypes:=#[t] },ty,pos,af,g⟩).run P w = .ok (.value v) w:=fun v hv =>
  x_bi (f:=Builtin.len_) (fun _ _ _ _=>rfl) (by simpa using hv)
 refine key _ ?_;unfold lenA at h;cases hti:C.ty t with
 | none=>simp [hti] at h
 | some ti =>
  simp only [hti] at h;have hT:=hC.ty t ti hti
  split at h
  ·rename_i hk
   split at h
   ·simp only [Option.some.injEq] at h; subst h;simp only [VR,PR] at hx;simp [Builtin.len_,hx,run_underlying (und_str hT hk),goInt]
   ·cases h
  ·rename_i k e hk
   split at h
   ·simp only [Option.some.injEq] at h; subst h;simp only [VR,PR] at hx;simp [Builtin.len_,hx,run_underlying (und_map hT hk),goInt]
   ·split at h
    ·rename_i kvs ho;simp only [Option.some.injEq] at h; subst h;obtain ⟨z,l,hl,hO⟩:=hH.ob _ _ ho;simp only [VR] at hx;obtain ⟨b,hA,hv⟩:=hx.2.2 _ l hl;simp only [OR] at hO;obtain ⟨_,b',es,hA',hg,hm⟩:=hO;rw [hA] at hA'; cases hA';have:=hm.length;simp at this;simp [Builtin.len_,hv,run_underlying (und_map hT hk),goInt,getObj,Sem.run,hg,this]
    ·cases h
   ·cases h
  ·rename_i e hk
   split at h
   ·simp only [Option.some.injEq] at h; subst h;simp only [VR,PR] at hx;obtain ⟨A,c,hv,_⟩:=hx;simp [Builtin.len_,hv,run_underlying (Qct hT hk),goInt]
   ·split at h
    ·rename_i fz sz es ho;simp only [Option.some.injEq] at h; subst h;obtain ⟨z,l,hl,hO⟩:=hH.ob _ _ ho;simp only [VR] at hx;have hv:=hx.2.2 _ l hl;simp only [OR] at hO;rw [hO.2.1] at hv;simp [Builtin.len_,hv,run_underlying (Qct hT hk),goInt]
    ·cases h
   ·rename_i o off len;cases ha:alive H o with
    | false=>simp [ha] at h
    | true =>
     simp only [ha,cond_true,Option.some.injEq] at h; subst h;obtain ⟨_,l,hl⟩:=alive_live hH ha;simp only [VR] at hx;obtain ⟨A,c,hv,_⟩:=hx.2.2 _ l hl;simp [Builtin.len_,hv,run_underlying (Qct hT hk),goInt]
   ·cases h
  ·rename_i m e hk;simp only [Option.some.injEq] at h; subst h;simp [Builtin.len_,run_underlying (und_arr hT hk),goInt]
  ·cases h
theorem g_minmax{b:Bool}{args:Array Operand}{ts:Array TypeId}{v:AV}(hρ:∀x,VR w (YOf X φ) φ (ra x) (ρ x)) (h:(if b then minI (args.toList.map ra) else maxI (args.toList.map ra))=some v) :
  ∃u,(execOp ρ ⟨d,.call { callee:=.builtin (if b then .min else .max),args:=args,argTypes:=ts },ty,pos,af,g⟩).run P w = .ok (.value u) w∧VR w (YOf X φ) φ v u:=by
 rcases args with ⟨l⟩;simp only at h
 match l,h with
 | [],h=>cases b<;>simp [minI,maxI] at h
 | [x],h=>cases b<;>simp [minI,maxI] at h
 | x::y::z::l,h=>cases b<;>simp [minI,maxI] at h
 | [x,y],h =>
  have hx:=hρ x;have hy:=hρ y;simp only [List.map_cons,List.map_nil] at h;cases b
  ·simp only [Bool.false_eq_true,if_false] at h ⊢;unfold maxI at h
   split at h
   ·rename_i k a k' c heq;simp only [List.cons.injEq,and_true] at heq;rw [heq.1] at hx; rw [heq.2] at hy;simp only [VR,PR] at hx hy;simp only [Option.some.injEq] at h; subst h;refine ⟨.int k (if c > a then c else a),x_bi (f:=Builtin.max_) (fun _ _ _ _=>rfl) ?_,?_⟩
    ·simp [Builtin.max_,hx,hy,Builtin.max2]
    ·simp only [VR,PR]
     by_cases hc:a<c<;>simp [hc]
   ·cases h
  ·simp only [if_true] at h ⊢;unfold minI at h
   split at h
   ·rename_i k a k' c heq;simp only [List.cons.injEq,and_true] at heq;rw [heq.1] at hx; rw [heq.2] at hy;simp only [VR,PR] at hx hy;simp only [Option.some.injEq] at h; subst h;refine ⟨.int k (if c<a then c else a),x_bi (f:=Builtin.min_) (fun _ _ _ _=>rfl) ?_,?_⟩
    ·simp [Builtin.min_,hx,hy,Builtin.min2]
    ·simp only [VR,PR]
     by_cases hc:c<a<;>simp [hc]
   ·cases h
end
end Go.Proofs.Ytbgjlpdeoljmiaa
namespace Go.Proofs.Ytbgjlpdeoljmiaa
set_option linter.unusedSimpArgs false
set_option linter.unusedVariables false
open Go.RowKit
section
variable {P:Program} {C:Cfg} {w w':World} {Y Y' X:Nat→Prop} {φ:Phi} {H:Hp}
variable {nid:Nat} {ρ:Operand→Value} {ra:Operand→AV} {d:Option Tmp} {ty:TypeId} {pos:String} {af:Array Edge} {g:Option (Nat×Bool)}
theorem PRLL.at{sz:Nat} : ∀{es:List (List PV)} {vss:List (List Value)},PRLL w Y sz es vss→∀{i:Nat} {e:List PV},es[i]?=some e→∃vs,vss[i]?=some vs∧e.length=sz∧PRL w Y e vs
 | [],vss,h,i,e,hi=>by simp at hi
 | x::es,vss,h,i,e,hi=>by
  simp only [PRLL] at h;obtain ⟨vs,r,rfl,hl,hp,hr⟩:=h;cases i with
  | zero=>simp at hi; subst hi; exact ⟨vs,by simp,hl,hp⟩
  | succ i=>simp at hi; simpa using PRLL.at hr hi
theorem flat_at{sz:Nat} : ∀{vss:List (List Value)} {i:Nat} {vs:List Value},(∀vs∈vss,vs.length=sz)→vss[i]?=some vs→(vss.flatten.drop (i*sz)).take sz=vs
 | [],i,vs,_,h=>by simp at h
 | us::r,0,vs,hs,h=>by
  simp at h; subst h;have:=hs us (by simp);rw [Nat.zero_mul,List.drop_zero,List.flatten_cons,List.take_append_of_le_length (by omega),List.take_of_length_le (by omega)]
 | us::r,i+1,vs,hs,h=>by
  have h1:=hs us (by simp);have h2:=flat_at (i:=i) (fun v hv=>hs v (List.mem_cons_of_mem _ hv)) (by simpa using h);rw [List.flatten_cons,List.drop_append,List.drop_eq_nil_of_le (by rw [Nat.succ_mul]; omega),List.nil_append,←h2];rw [show (i+1)*sz-us.length=i*sz from by rw [Nat.succ_mul,h1]; omega]
theorem heap_lt{b:Nat}{ob:Obj}(h:w.heap[b]?=some ob):b<w.heap.size:=by
 rcases Nat.lt_or_ge b w.heap.size with hlt | hge
 ·exact hlt
 ·rw [Array.getElem?_eq_none hge] at h; cases h
theorem PRE_store{b p sz i t:Nat}{cs:Array Value}{es news:List (List PV)}{vss:List (List Value)} (hg:w.heap[b]?=some (.cells cs t (0,0))) (hE:PRE w Y b sz p es) (hv:PRLL w Y sz news vss) (hi:i≤es.length)
  (hfit:p+(i+news.length)*sz≤cs.size) (st:Stay w Y (w.setCells b (p+i*sz) vss.flatten) Y'):PRE (w.setCells b (p+i*sz) vss.flatten) Y' b sz p (es.take i++news++es.drop (i+news.length)):=by
 have hfl:=Qby hv.size;rw [hv.length] at hfl;have hmul:(i+news.length)*sz=i*sz+news.length*sz:=Nat.add_mul _ _ _;have hth:w.there b (p+i*sz) vss.flatten.length:=fun j hj=>by
  have hj':p+i*sz+j<cs.size:=by omega
  constructor
  ·simp [World.cell?,hg,hj']
  ·simp [World.frozen?,hg]
 have hsame:=World.rangeAt_setCells_same w b (p+i*sz) vss.flatten hth;have old:∀{m:Nat} {e:List PV},es[m]?=some e→(m<i∨i+news.length≤m)→e.length=sz∧PRC (w.setCells b (p+i*sz) vss.flatten) Y' b (p+m*sz) e:=fun {m e} he hm=>by
  obtain ⟨h1,h2⟩:=hE.at he;obtain ⟨us,hus,hra⟩:=PRC.vals h2;refine ⟨h1,PRC.of_vals (PRL.stay st _ _ hus) (World.rangeAt_setCells_apart hra b (p+i*sz) vss.flatten (.inr ?_))⟩;have hul:=hus.length;rcases hm with hm | hm
  ·left
   have:(m+1)*sz≤i*sz:=Nat.mul_le_mul_right sz hm;rw [Nat.succ_mul] at this; omega
  ·right
   have:(i+news.length)*sz≤m*sz:=Nat.mul_le_mul_right sz hm;omega
 refine PRE.of fun m e he=>?_;rcases Nat.lt_or_ge m i with hm | hm
 ·rw [List.append_assoc,List.getElem?_append_left (by simp; omega),List.getElem?_take,if_pos hm] at he;exact old he (.inl hm)
 ·rcases Nat.lt_or_ge m (i+news.length) with hm2 | hm2
  ·rw [List.append_assoc,List.getElem?_append_right (by simp; omega),List.getElem?_append_left (by simp; omega)] at he;have hti:(es.take i).length=i:=by simp; omega
   rw [hti] at he;obtain ⟨us,h1,h2,h3⟩:=hv.at he;have hra:=rangeAt_sub hsame ((m-i)*sz) sz;rw [flat_at hv.size h1] at hra;refine ⟨h2,PRC.of_vals (PRL.stay st _ _ h3) ?_⟩;have e1:p+i*sz+(m-i)*sz=p+m*sz:=by
    rw [Nat.add_assoc,←Nat.add_mul]; congr 2; omega
   rwa [e1] at hra
  ·rw [List.getElem?_append_right (by simp; omega),List.getElem?_drop] at he;have e1:i+news.length+(m-(es.take i++news).length)=m:=by simp; omega
   rw [e1] at he;exact old he (.inr hm2)
theorem setCells_size{b t o:Nat}{cs:Array Value}{vs:List Value} (hg:w.heap[b]?=some (.cells cs t (0,0))) (hle:o+vs.length≤cs.size):∃cs',(w.setCells b o vs).heap[b]?=some (.cells cs' t (0,0))∧cs'.size=cs.size:=by
 have:=setCells_at (b:=b) vs cs.toList o w (by simpa using hg) (by simpa using hle);exact ⟨_,this,by simp; omega⟩
theorem Qbs{H:Hp}{o n:Nat}{y:Option Ob}{x:Ob}(h:n≤H.length):H.length≤(hput (hset H o y) n x).length:=by
 have:=Qar (H:=hset H o y) (x:=x) (n:=n) (by rw [Qv]; exact h);rw [Qv] at this; exact this.1
theorem HR.move{n:Nat}(h:HR X φ H w)(hf:Free φ H n){o:Nat}{l:Loc}(hl:φ o = .at false l)(l':Loc)(x:Ob)(hos:w'.os=w.os)(htape:w'.tape=w.tape)(hout:w'.output=w.output∧w.drawn≤w'.drawn)(hsize:w.heap.size≤w'.heap.size)
  (hblk:∀k,k<w.heap.size→(∀p,l.A≠some (k,p))→w'.heap[k]?=w.heap[k]?) (hA:∀b p',l'.has b p'→(∃p,l.has b p)∨(w.heap.size≤b∧b<w'.heap.size))
  (hO:Ev φ w ((φ.set o .dead).set n (.at false l')) w'→OR w' (YOf X ((φ.set o .dead).set n (.at false l'))) ((φ.set o .dead).set n (.at false l')) false l' x) :
  HR X ((φ.set o .dead).set n (.at false l')) (hput (hset H o none) n x) w'∧Ev φ w ((φ.set o .dead).set n (.at false l')) w':=by
 have hlt:=h.lt hl;have hne:o≠n:=fun e=>by rw [e,hf.fr] at hl; cases hl
 have ev:Ev φ w ((φ.set o .dead).set n (.at false l')) w':=by
  refine ⟨hos,htape,hout,hsize,fun b hb hn=>hblk b hb fun p hp=>hn ⟨o,l,p,hl,.inl hp⟩,fun b hb hc=>?_,fun k hf'=>?_⟩
  ·obtain ⟨k,l2,p,hk,hA2⟩:=hc
   by_cases e:k=n
   ·subst e; rw [Phi.set_self] at hk; cases hk;rcases hA b p hA2 with ⟨p',hp'⟩|⟨hge,_⟩
    ·exact ⟨o,l,p',hl,hp'⟩
    ·omega
   ·rw [Phi.set_ne e] at hk
    by_cases e2:k=o
    ·subst e2; rw [Phi.set_self] at hk; cases hk
    ·rw [Phi.set_ne e2] at hk; exact ⟨k,l2,p,hk,hA2⟩
  ·have e:k≠n:=fun e=>hf' (by rw [e]; exact hf.fr);rw [Phi.set_ne e]
   by_cases e2:k=o
   ·subst e2; rw [Phi.set_self]; exact .inr (.inl rfl)
   ·rw [Phi.set_ne e2]; exact .inl rfl
 refine ⟨?_,ev⟩;have hlen:(hset H o none).length=H.length:=Qv;have hle:n≤(hset H o none).length:=by rw [hlen]; exact hf.le
 have hlen2:=Qar (x:=x) hle;refine h.next ev (fun k=>?_) (fun k z l2 hk=>?_) (fun k y hy=>?_) (fun k l2 b p hk hA2=>?_)
 ·intro hk;rw [Phi.set_ne (by omega),Phi.set_ne (by omega)]; exact h.fresh k (by omega)
 ·by_cases e:k=n
  ·exact ⟨x,by rw [Qan hle,if_pos e]⟩
  ·rw [Phi.set_ne e] at hk
   by_cases e2:k=o
   ·subst e2; rw [Phi.set_self] at hk; cases hk
   ·rw [Phi.set_ne e2] at hk;obtain ⟨y,hy⟩:=h.live k z l2 hk;exact ⟨y,by rw [Qan hle,if_neg e,Qaa hlt,if_neg e2]; exact hy⟩
 ·by_cases e:k=n
  ·rw [Qan hle,if_pos e] at hy; cases hy;exact .inr ⟨false,l',by rw [e,Phi.set_self],hO ev⟩
  ·rw [Qan hle,if_neg e] at hy
   by_cases e2:k=o
   ·rw [Qaa hlt,if_pos e2] at hy; cases hy
   ·rw [Qaa hlt,if_neg e2] at hy;refine .inl ⟨hy,by rw [Phi.set_ne e,Phi.set_ne e2],fun l2 b p hk hA2=>hblk b (h.out k l2 b p hk hA2).2 fun p' hp'=>e2 (h.inj k o l2 l b p p' hk hl hA2 (.inl hp'))⟩
 ·by_cases e:k=n
  ·subst e; rw [Phi.set_self] at hk; cases hk;rcases hA b p hA2 with ⟨p',hp'⟩|⟨hge,hlt2⟩
   ·have:=h.out o l b p' hl hp';refine .inr ⟨this.1,Nat.lt_of_lt_of_le this.2 hsize,fun o' l2 p2 ho' hA'=>?_⟩
    by_cases e3:o'=k
    ·exact e3
    ·rw [Phi.set_ne e3] at ho'
     by_cases e4:o'=o
     ·subst e4; rw [Phi.set_self] at ho'; cases ho'
     ·rw [Phi.set_ne e4] at ho';exact absurd (h.inj o' o l2 l b p2 p' ho' hl hA' hp') e4
   ·refine .inr ⟨fun hx=>by have:=h.xlt b hx; omega,hlt2,fun o' l2 p2 ho' hA'=>?_⟩
    by_cases e3:o'=k
    ·exact e3
    ·rw [Phi.set_ne e3] at ho'
     by_cases e4:o'=o
     ·subst e4; rw [Phi.set_self] at ho'; cases ho'
     ·rw [Phi.set_ne e4] at ho';have:=(h.out o' l2 b p2 ho' hA').2; omega
  ·rw [Phi.set_ne e] at hk
   by_cases e2:k=o
   ·subst e2; rw [Phi.set_self] at hk; cases hk
   ·rw [Phi.set_ne e2] at hk; exact .inl hk


theorem src_ok(hC:Qad P C)(hH:HR X φ H w){t1:Nat}{te:TI}{a:AV}{news:List (List PV)}{v:Value}(ht:srcTy C t1 a=true)(h:Qbf H a=some news)(hn:news.all (fun c=>Nat.beq c.length te.size)=true)(hv:VR w (YOf X φ) φ a v) :
  (∃u,P.underlying t1=some u∧(∀k,u≠.int k))∧(Builtin.lenOf v).run P w = .ok news.length w ∧
  ∃vss,PRLL w (YOf X φ) te.size news vss∧∀(n:Nat)(w2:World),n≤news.length→w2.heap=w.heap→(Builtin.firstCells te.size n v).run P w2 = .ok (vss.take n).flatten.toArray w2:=by
 have slc:∀{sz:Nat} {es:List (List PV)},elems H a=some (sz,es)→news=es→((Builtin.lenOf v).run P w = .ok news.length w ∧
  ∃vss,PRLL w (YOf X φ) te.size news vss∧∀(n:Nat)(w2:World),n≤news.length→w2.heap=w.heap→(Builtin.firstCells te.size n v).run P w2 = .ok (vss.take n).flatten.toArray w2):=by
  intro sz es he hes;subst hes;obtain ⟨A,c,hv,_,_,hA⟩:=elems_ok hH he hv;subst hv;refine ⟨by simp [Builtin.lenOf],?_⟩;rcases hA with h0 | ⟨b,o,rfl,hE⟩
  ·have hnil:news=[]:=List.length_eq_zero_iff.1 h0;subst hnil;refine ⟨[],by simp only [PRLL],fun n w2 hn _=>?_⟩;have:n=0:=by simpa using hn
   subst this;cases A with
   | none=>simp [Builtin.firstCells]
   | some a=>rw [run_firstCells_some w2 te.size 0 a _ c [] (by simp) (fun j v h=>by simp at h)]; rfl
  ·cases news with
   | nil =>
    refine ⟨[],by simp only [PRLL],fun n w2 hn _=>?_⟩;have:n=0:=by simpa using hn
    subst this;rw [run_firstCells_some w2 te.size 0 _ _ c [] (by simp) (fun j v h=>by simp at h)]; rfl
   | cons e0 es =>
    have hsz:sz=te.size:=by
     have h1:=(hE.at (i:=0) (e:=e0) rfl).1;have h2:e0.length=te.size:=by simp only [List.all_cons,Bool.and_eq_true,Nat.beq_eq] at hn; exact hn.1
     omega
    subst hsz;obtain ⟨vss,h1,h2⟩:=hE.flat;refine ⟨vss,h1,fun n w2 hn hw=>?_⟩;have hl:=h1.length;refine run_firstCells_some w2 te.size n _ _ c (vss.take n).flatten ?_ fun j u hj=>?_
    ·rw [Qby fun vs hvs=>h1.size vs (List.mem_of_mem_take hvs)];simp at hn ⊢; congr 1; simp at hl; omega
    ·rw [Addr.add_mid,World.cell?_of_block (w:=w) (a:=⟨b,o+j,none⟩) (by rw [hw])];refine h2 j u ?_;rw [←List.take_append_drop n vss,List.flatten_append,List.getElem?_append_left (List.getElem?_eq_some_iff.1 hj).1]; exact hj
 have slty:(match C.ty t1 with | some ti=>(match ti.k with | .sl _=>true | _=>false) | none=>false)=true→∃u,P.underlying t1=some u∧(∀k,u≠.int k):=by
  intro h;cases hti:C.ty t1 with
  | none=>simp [hti] at h
  | some ti =>
   simp only [hti] at h
   split at h
   ·rename_i e hk;exact ⟨_,Qct (hC.ty t1 ti hti) hk,fun k h=>by cases h⟩
   ·cases h
 unfold Qbf at h
 split at h
 ·rename_i s;simp only [Option.some.injEq] at h;simp only [VR,PR] at hv;subst hv;refine ⟨?_,by rw [←h]; simp [Builtin.lenOf],s.data.toList.map fun b=>[.int .u8 (b.toNat:Int)],?_,fun n w2 hn _=>?_⟩
  ·unfold srcTy at ht;cases hti:C.ty t1 with
   | none=>simp [hti] at ht
   | some ti =>
    simp only [hti] at ht
    split at ht
    ·rename_i hk;exact ⟨_,und_str (hC.ty t1 ti hti) hk,fun k h=>by cases h⟩
    ·cases ht
  ·subst h;generalize s.data.toList=l at hn
   induction l with
   | nil=>simp [PRLL]
   | cons b l ih =>
    simp only [List.map_cons,List.all_cons,Bool.and_eq_true,Nat.beq_eq] at hn;simp only [List.map_cons,PRLL];exact ⟨_,_,rfl,hn.1,by simp only [PRL]; exact ⟨_,[],rfl,rfl,by simp only [PR],rfl⟩,ih hn.2⟩
  ·subst h;have e1:∀l:List UInt8,((l.map fun b=>[Value.int .u8 (b.toNat:Int)]).take n).flatten=(l.take n).map fun b=>Value.int .u8 (b.toNat:Int):=by
    intro l;rw [←List.map_take]
    induction l.take n with
    | nil=>rfl
    | cons b l ih=>simp [ih]
   rw [e1];simp only [Builtin.firstCells,Sem.run_pure]
   congr 1
   apply Array.ext'
   simp [ByteArray.data_extract]
 ·rename_i hns;simp only [Option.map_eq_some_iff] at h;obtain ⟨⟨sz,es⟩,he,rfl⟩:=h;have ht2:∃u,P.underlying t1=some u∧(∀k,u≠.int k):=by
   unfold srcTy at ht
   split at ht
   ·exact absurd rfl (hns _)
   ·exact slty ht
  exact ⟨ht2,slc he rfl⟩


theorem run_cells{b o:Nat}{vs:List Value}(ht:w.there b o vs.length)(h1:∀u∈vs,u.oneCell'=true):(storeCells ⟨b,o,none⟩ vs).run P w = .ok () (w.setCells b o vs):=by
 have:=run_storeCells_cells (P:=P) b o vs 0 w (fun j hj=>by simpa using (ht j hj).1) (fun j hj=>by simpa using (ht j hj).2) h1;simpa using this
theorem run_app_room{t t1 e n len cap:Nat}{te:TI}{u1:TypeDesc}{vy:Value}{flat:List Value}{A:Option Addr}(hu:P.underlying t=some (.slice e))(hE:Qcn P e te=true)(hu1:P.underlying t1=some u1)(hn1:∀k,u1≠.int k)
  (hl:(Builtin.lenOf vy).run P w = .ok n w) (hf:(Builtin.firstCells te.size n vy).run P w = .ok flat.toArray w) (hroom:len+n≤cap)
  (hA:(A=none∧w'=w)∨∃b o,A=some ⟨b,o,none⟩∧w.there b (o+len*te.size) flat.length∧(∀u∈flat,u.oneCell'=true)∧w'=w.setCells b (o+len*te.size) flat) :
  (Builtin.append_ #[t,t1] ty #[.slice A len cap,vy]).run P w = .ok (.slice A (len+n) cap) w':=by
 have hs:=run_size (w:=w) hE;rcases hA with ⟨rfl,rfl⟩|⟨b,o,rfl,hth,h1,rfl⟩
 ·simp [Builtin.append_,run_underlying hu,hs,run_underlying hu1,hl,hroom,hf]
 ·have hst:=run_cells (P:=P) hth h1;simp [Builtin.append_,run_underlying hu,hs,run_underlying hu1,hl,hroom,hf,Addr.add_mid,hst]
theorem run_app_grow{t t1 e n len cap:Nat}{te:TI}{u1:TypeDesc}{vy:Value}{flat olds:List Value}{A:Option Addr}(hu:P.underlying t=some (.slice e))(hE:Qcn P e te=true)(hu1:P.underlying t1=some u1)(hn1:∀k,u1≠.int k)
  (hl:(Builtin.lenOf vy).run P w = .ok n w) (hf:(Builtin.firstCells te.size n vy).run P w.drew = .ok flat.toArray w.drew) (hroom:cap<len+n) (hfit:Qbg (len+n) te=true)
  (ho:(Builtin.firstCells te.size len (.slice A len cap)).run P w.drew = .ok olds.toArray w.drew) :
  ∃ (c : Nat) (rest : Array Value), len + n ≤ c ∧ c ≤ maxLen ∧ rest.size = (c - (len + n)) * te.size ∧
   (Builtin.append_ #[t,t1] ty #[.slice A len cap,vy]).run P w = .ok (.slice (some ⟨w.heap.size,0,none⟩) (len+n) c) (w.drew.alloc (.cells ((olds++flat).toArray++rest) e)):=by
 obtain ⟨hf1,hf2⟩:=fits_of hfit;obtain ⟨ie,ze,hie,hse,hbe,hze,hzl⟩:=Qbm hE;have hs:=run_size (w:=w) hE;have hzs:ze.cells.size=te.size:=by rw [←tyOK_len hE,←(hzl w (fun _=>False)).length,Array.length_toList]
 have hn:¬(len+n≤cap):=by omega
 have hgf:=growslice_fits (bytes:=te.bytes) hroom hf1;have h48:¬(281474976710656<Builtin.nextslicecap (len+n) cap*ie.bytes):=by rw [hbe]; omega
 have hzv:(zeroValue e).run P w.drew = .ok ze w.drew:=by simp [zeroValue,typeInfo,hie,hze]
 refine ⟨grownCap w (len+n) cap e,Builtin.zeroCells ze.cells (grownCap w (len+n) cap e-(len+n)),grownCap_ge w _ _ e,grownCap_le_maxLen w _ _ e hf2,by rw [size_zeroCells,hzs],?_⟩;have h63:¬(9223372036854775807<(len:Int)+(n:Int)):=by unfold maxLen at hf2; omega
 simp [Builtin.append_,run_underlying hu,hs,run_underlying hu1,hl,hn,h48,Question.forced,ho,hf,newRow,grownCap,hzv,typeInfo,hie,h63]
 congr 2
 apply Array.ext'
 simp [List.append_assoc]

theorem Ev.drew:Ev φ w φ w.drew:=⟨rfl,rfl,⟨rfl,Nat.le_succ _⟩,Nat.le_refl _,fun _ _ _=>rfl,fun _ _ h=>h,fun _ _=>.inl rfl⟩
theorem HR.drew(h:HR X φ H w):HR X φ H w.drew:=by
 refine h.next Ev.drew h.fresh h.live (fun o x hx=>.inl ⟨hx,rfl,fun _ _ _ _ _=>rfl⟩) (fun o l b p ho _=>.inl ho)
theorem x_append{t t1:Nat}{x y:Operand}{v:Value}(h:(Builtin.append_ #[t,t1] ty #[ρ x,ρ y]).run P w = .ok v w') :
  (execOp ρ ⟨d,.call { callee:=.builtin .append,args:=#[x,y],argTypes:=#[t,t1] },ty,pos,af,g⟩).run P w = .ok (.value v) w':=by
 rw [BigFrame.execOp_builtin,BigFrame.builtin_append];simp [h]
theorem PRE_new{t sz n c:Nat}{es news:List (List PV)}{ess vss:List (List Value)}{rest:Array Value}{w0:World}(h1:PRLL w0 Y sz es ess)(h2:PRLL w0 Y sz news vss)(hn:es.length+news.length=n)(hc:n≤c)(hr:rest.size=(c-n)*sz)
  (st:Stay w0 Y (w.alloc (.cells ((ess.flatten++vss.flatten).toArray++rest) t)) Y') :
  PRE (w.alloc (.cells ((ess.flatten++vss.flatten).toArray++rest) t)) Y' w.heap.size sz 0 (es++news)∧((ess.flatten++vss.flatten).toArray++rest).size=c*sz:=by
 have e1:=Qby h1.size;have e2:=Qby h2.size;rw [h1.length] at e1; rw [h2.length] at e2;refine ⟨PRE.of_flat (PRLL.stay st (h1.append h2)) fun j v hj=>?_,?_⟩
 ·simp only [World.cell?,heap_alloc_new];simp only [Nat.zero_add,Option.isSome_none,Bool.false_eq_true,if_false];rw [List.flatten_append] at hj;rw [Array.getElem?_append_left (by have:=(List.getElem?_eq_some_iff.1 hj).1; simpa using this)];simpa using hj
 ·simp only [Array.size_append,List.size_toArray,List.length_append];rw [e1,e2,hr,←Nat.add_mul,hn,←Nat.add_mul]; congr 1; omega
theorem PRL.one:∀{cs:List PV} {vs:List Value},PRL w Y cs vs→∀v∈vs,v.oneCell'=true
 | [],vs,h,v,hv=>by simp only [PRL] at h; subst h; cases hv
 | c::cs,vs,h,v,hv=>by
  simp only [PRL] at h;obtain ⟨u,r,rfl,ho,hc,hr⟩:=h;rcases List.mem_cons.1 hv with rfl | hv
  ·exact (pr_one ho hc).1
  ·exact PRL.one hr v hv
theorem PRLL.one{sz:Nat} : ∀{es:List (List PV)} {vss:List (List Value)},PRLL w Y sz es vss→∀v∈vss.flatten,v.oneCell'=true
 | [],vss,h,v,hv=>by simp only [PRLL] at h; subst h; simp at hv
 | e::es,vss,h,v,hv=>by
  simp only [PRLL] at h;obtain ⟨vs,r,rfl,_,hp,hr⟩:=h;rw [List.flatten_cons,List.mem_append] at hv;rcases hv with hv | hv
  ·exact hp.one v hv
  ·exact PRLL.one hr v hv
theorem olds_of{te_size len cap:Nat}{A:Option Addr}{es:List (List PV)}(hle:es.length=len)(hA:len=0∨∃b o,A=some ⟨b,o,none⟩∧PRE w Y b te_size o es) :
  ∃ess,PRLL w Y te_size es ess∧(Builtin.firstCells te_size len (.slice A len cap)).run P w.drew = .ok ess.flatten.toArray w.drew:=by
 rcases hA with h0 | ⟨b,o,rfl,hE⟩
 ·subst h0;have:es=[]:=List.length_eq_zero_iff.1 hle;subst this;refine ⟨[],by simp only [PRLL],?_⟩;cases A with
  | none=>simp [Builtin.firstCells]
  | some a=>rw [run_firstCells_some w.drew te_size 0 a _ cap [] (by simp) (fun j v h=>by simp at h)]; rfl
 ·obtain ⟨ess,h1,h2⟩:=hE.flat;refine ⟨ess,h1,run_firstCells_some w.drew te_size len _ _ cap ess.flatten (by rw [Qby h1.size,h1.length,hle]) fun j u hj=>?_⟩;rw [Addr.add_mid];exact h2 j u hj
theorem g_append{t t1:Nat}{x y:Operand}{v:AV}{H':Hp}(hC:Qad P C)(hH:HR X φ H w)(hfr:Free φ H nid)(h:Qbo C nid H t t1 (ra x) (ra y)=some (v,H'))(hx:VR w (YOf X φ) φ (ra x) (ρ x))(hy:VR w (YOf X φ) φ (ra y) (ρ y)) :
  Good nid H X φ w v H' ((execOp ρ ⟨d,.call { callee:=.builtin .append,args:=#[x,y],argTypes:=#[t,t1] },ty,pos,af,g⟩).run P w):=by
 unfold Qbo at h
 split at h
 ·rename_i ti news hti hsrc;cases hst:srcTy C t1 (ra y) with
  | false=>simp [hst] at hsrc
  | true =>
   simp only [hst,cond_true] at hsrc
   split at h
   ·rename_i e hk;have hu:=Qct (hC.ty t ti hti) hk
    split at h
    ·cases h
    ·rename_i te hte;have hE:=hC.ty e te hte;cases hg1:(!(news.all fun c=>Nat.beq c.length te.size)||Nat.beq te.size 0) with
     | true=>simp [hg1] at h
     | false =>
      simp only [hg1,cond_false] at h;rw [Bool.or_eq_false_iff] at hg1;have hall:news.all (fun c=>Nat.beq c.length te.size)=true:=by simpa using hg1.1
      have hpos:te.size≠0:=fun e=>by rw [e] at hg1; simp at hg1
      obtain ⟨⟨u1,hu1,hn1⟩,hlen,vss,hvss,hfc⟩:=src_ok hC hH hst hsrc hall hy;have hvl:=hvss.length;have hfcw:(Builtin.firstCells te.size news.length (ρ y)).run P w = .ok vss.flatten.toArray w:=by
       have:=hfc news.length w (Nat.le_refl _) rfl
       rwa [List.take_of_length_le (by omega)] at this
      have hfcd:(Builtin.firstCells te.size news.length (ρ y)).run P w.drew = .ok vss.flatten.toArray w.drew:=by
       have:=hfc news.length w.drew (Nat.le_refl _) rfl
       rwa [List.take_of_length_le (by omega)] at this
      -- nothing is appended
      have none_case:news=[]→∀{A:Option Addr} {n c:Nat},ρ x = .slice A n c→n≤c→(execOp ρ ⟨d,.call { callee:=.builtin .append,args:=#[x,y],argTypes:=#[t,t1] },ty,pos,af,g⟩).run P w = .ok (.value (.slice A n c)) w:=by
       intro hnil A n c hv hle;subst hnil;refine x_append ?_;rw [hv];have hvn:vss=[]:=List.length_eq_zero_iff.1 (by simpa using hvl);subst hvn;have hs:=run_size (w:=w) hE;cases A with
       | none =>
        have:=run_app_room (ty:=ty) (w':=w) hu hE hu1 hn1 hlen hfcw (A:=none) (len:=n) (cap:=c) (by simpa using hle) (.inl ⟨rfl,rfl⟩);simpa using this
       | some a =>
        have hl':(Builtin.lenOf (ρ y)).run P w = .ok 0 w:=hlen;have hf':(Builtin.firstCells te.size 0 (ρ y)).run P w = .ok #[] w:=hfcw;simp [Builtin.append_,run_underlying hu,hs,run_underlying hu1,hl',hf',hle,storeCells]
      -- a new row
      have grow:∀{A:Option Addr} {cap:Nat} {es:List (List PV)},ρ x = .slice A es.length cap→cap<es.length+news.length→Qbg (es.length+news.length) te=true→(es.length=0∨∃b o,A=some ⟨b,o,none⟩∧PRE w (YOf X φ) b te.size o es) →
        ∃c ess rest,PRLL w (YOf X φ) te.size es ess∧es.length+news.length≤c∧c≤maxLen∧rest.size=(c-(es.length+news.length))*te.size ∧
        (execOp ρ ⟨d,.call { callee:=.builtin .append,args:=#[x,y],argTypes:=#[t,t1] },ty,pos,af,g⟩).run P w = .ok (.value (.slice (some ⟨w.heap.size,0,none⟩) (es.length+news.length) c)) (w.drew.alloc (.cells ((ess.flatten++vss.flatten).toArray++rest) e)):=by
       intro A cap es hv hroom hfit hA;obtain ⟨ess,h1,h2⟩:=olds_of (P:=P) (cap:=cap) rfl hA;obtain ⟨c,rest,h3,h4,h5,h6⟩:=run_app_grow (ty:=ty) hu hE hu1 hn1 hlen hfcd hroom hfit h2;exact ⟨c,ess,rest,h1,h3,h4,h5,x_append (by rw [hv]; exact h6)⟩
      split at h
      ·-- []
       split at h
       ·rename_i f sz es hv;simp only [Option.some.injEq,Prod.mk.injEq] at h; obtain ⟨rfl,rfl⟩:=h;rw [hv] at hx;have hx':=hx;simp only [VR,PR] at hx;obtain ⟨A,c,he,h1,_⟩:=hx;exact Qcj (none_case rfl he h1) (by rw [←he]; exact hx') hH
       ·rename_i o hv
        split at h
        ·rename_i fz sz es ho;simp only [Option.some.injEq,Prod.mk.injEq] at h; obtain ⟨rfl,rfl⟩:=h;obtain ⟨z,l,hl,hO⟩:=hH.ob _ _ ho;rw [hv] at hx;have hx':=hx;simp only [VR] at hx;have he:=hx.2.2 _ l hl;simp only [OR] at hO;exact Qcj (none_case rfl he hO.2.2.2.1) (by rw [←he]; exact hx') hH
        ·cases h
       ·rename_i o off len hv
        split at h
        ·rename_i fz sz es ho;simp only [Option.some.injEq,Prod.mk.injEq] at h; obtain ⟨rfl,rfl⟩:=h;obtain ⟨z,l,hl,hO⟩:=hH.ob _ _ ho;rw [hv] at hx;have hx':=hx;simp only [VR] at hx;obtain ⟨A,c,he,h1,h2,_⟩:=hx.2.2 _ l hl;simp only [OR] at hO;have:=hO.2.2.2.1;exact Qcj (none_case rfl he (by omega)) (by rw [←he]; exact hx') hH
        ·cases h
       ·cases h
      ·rename_i e0 es0;have hmpos:0<(e0::es0).length:=by simp
       generalize hnews:e0::es0=news at *
       -- a new piece of own memory beside the others
       have fresh_case:∀{A:Option Addr},ρ x = .slice A 0 0→Qbg news.length te=true→Good nid H X φ w (.own nid) (hput H nid (.row false te.size news)) ((execOp ρ ⟨d,.call { callee:=.builtin .append,args:=#[x,y],argTypes:=#[t,t1] },ty,pos,af,g⟩).run P w):=by
        intro A hv hfit;obtain ⟨c,ess,rest,h1,h2,h3,h4,h5⟩:=grow (A:=A) (cap:=0) (es:=[]) hv (by simp; omega) (by simpa using hfit) (.inl rfl);have hd:=hH.drew
        let l:Loc:=⟨some (w.heap.size,0),news.length,c,te.size,noD⟩
        have ev:Ev φ w.drew (φ.set nid (.at false l)) _:=Ev.new hfr.fr (.cells ((ess.flatten++vss.flatten).toArray++rest) e) l (fun b p he=>by cases Loc.has_no he; exact Nat.le_refl _);have hdr:PRLL w.drew (YOf X φ) te.size news vss:=PRLL.stay ((Ev.drew (φ:=φ) (w:=w)).stay X) hvss;have hdr1:PRLL w.drew (YOf X φ) te.size [] ess:=PRLL.stay ((Ev.drew (φ:=φ) (w:=w)).stay X) h1;obtain ⟨k1,k2⟩:=PRE_new (w:=w.drew) (n:=news.length) (t:=e) hdr1 hdr (by simp) (by simpa using h2) (by simpa using h4) (ev.stay X);refine ⟨_,_,_,φ.set nid (.at false l),h5,.inl rfl,?_,hd.new hfr _ l (.row false te.size news) (fun b p he=>by cases Loc.has_no he; rfl) ?_,Ev.drew.trans ev,(Qar hfr.le).1,fun k hk h=>by rw [Phi.set_ne hk]; exact h⟩
        ·simp only [VR];refine ⟨rfl,(by rw [Phi.set_self]; intro h; cases h),fun _ l' hl'=>?_⟩;rw [Phi.set_self] at hl'; cases hl';simp [Loc.addr,l]
        ·simp only [OR];refine ⟨trivial,rfl,rfl,by simpa using h2,h3,.inr ⟨w.heap.size,0,e,_,rfl,heap_alloc_new w.drew _,?_,by simpa using k1,fun h=>by cases h⟩⟩;show 0+c*te.size≤_;rw [k2]; omega
       -- own memory, laid anew
       have move_grow:∀{o:Nat} {l:Loc} {A:Option Addr} {cap:Nat} {es:List (List PV)},φ o = .at false l→ρ x = .slice A es.length cap→cap<es.length+news.length→Qbg (es.length+news.length) te=true→(es.length=0∨∃b o,A=some ⟨b,o,none⟩∧PRE w (YOf X φ) b te.size o es) →
         Good nid H X φ w (.own nid) (hput (hset H o none) nid (.row false te.size (es++news))) ((execOp ρ ⟨d,.call { callee:=.builtin .append,args:=#[x,y],argTypes:=#[t,t1] },ty,pos,af,g⟩).run P w):=by
        intro o l A cap es hl hv hroom hfit hA;obtain ⟨c,ess,rest,h1,h2,h3,h4,h5⟩:=grow hv hroom hfit hA
        let l':Loc:=⟨some (w.heap.size,0),es.length+news.length,c,te.size,noD⟩
        obtain ⟨m1,m2⟩:=hH.move hfr (w':=w.drew.alloc (.cells ((ess.flatten++vss.flatten).toArray++rest) e)) hl l' (.row false te.size (es++news)) rfl rfl ⟨rfl,Nat.le_succ _⟩ (by simp) (fun k hk _=>Below.heap_alloc w.drew _ k hk) (fun b p' he=>by cases Loc.has_no he; exact .inr ⟨Nat.le_refl _,by simp⟩) (fun ev=>by
         obtain ⟨k1,k2⟩:=PRE_new (w:=w.drew) (w0:=w) (n:=es.length+news.length) (t:=e) h1 hvss rfl h2 h4 (ev.stay X);simp only [OR];refine ⟨trivial,by simp [l'],rfl,h2,h3,.inr ⟨w.heap.size,0,e,_,rfl,heap_alloc_new w.drew _,?_,k1,fun h=>by cases h⟩⟩;show 0+c*te.size≤_;rw [k2]; omega)
        refine ⟨_,_,_,_,h5,.inl rfl,?_,m1,m2,Qbs hfr.le,fun k hk h=>by rw [Phi.set_ne hk,Phi.set_ne (fun e=>by rw [←e,h] at hl; cases hl)]; exact h⟩;simp only [VR];refine ⟨rfl,(by rw [Phi.set_self]; intro h; cases h),fun _ l2 hl2=>?_⟩;rw [Phi.set_self] at hl2; cases hl2;simp [Loc.addr,l']
       split at h
       ·rename_i sz hv;cases hfit:Qbg news.length te with
        | false=>simp [hfit] at h
        | true =>
         simp only [hfit,cond_true,Option.some.injEq,Prod.mk.injEq] at h; obtain ⟨rfl,rfl⟩:=h;rw [hv] at hx;simp only [VR,PR,flOk] at hx;obtain ⟨A,c,he,_,_,⟨rfl,rfl⟩,_⟩:=hx;exact fresh_case he hfit
       ·rename_i sz hv;cases hfit:Qbg news.length te with
        | false=>simp [hfit] at h
        | true =>
         simp only [hfit,cond_true,Option.some.injEq,Prod.mk.injEq] at h; obtain ⟨rfl,rfl⟩:=h;rw [hv] at hx;simp only [VR,PR,flOk] at hx;obtain ⟨A,c,he,_,_,rfl,_⟩:=hx;exact fresh_case he hfit
       ·rename_i o hv
        split at h
        ·rename_i sz es ho;cases hb:(Qbg (es.length+news.length) te&&Nat.beq sz te.size) with
         | false=>simp [hb] at h
         | true =>
          simp only [hb,cond_true,Option.some.injEq,Prod.mk.injEq] at h; obtain ⟨rfl,rfl⟩:=h;rw [Bool.and_eq_true,Nat.beq_eq] at hb;obtain ⟨hfit,rfl⟩:=hb;obtain ⟨z,l,hl,hO⟩:=hH.ob _ _ ho;have hel:=elems_ok hH (a:=.own o) (sz:=te.size) (es:=es) (by simp [elems,ho]) (by rw [←hv]; exact hx);rw [hv] at hx;simp only [VR] at hx;have he:=hx.2.2 _ l hl;have hO2:=hO;simp only [OR] at hO;obtain ⟨rfl,h1,h2,h3,h4,h5⟩:=hO;rw [h1] at he;rcases Nat.lt_or_ge l.c (es.length+news.length) with hroom | hroom
          ·obtain ⟨A,c,he2,_,_,hA⟩:=hel;rw [he] at he2
           injection he2 with q1 q2 q3
           exact move_grow hl he hroom hfit (by rw [←q1] at hA; exact hA)
          ·rcases h5 with ⟨_,h6⟩|⟨b,p,t',cs,hA,hg,hcs,hPE,_⟩
           ·omega
           ·have hmul:(es.length+news.length)*te.size≤l.c*te.size:=Nat.mul_le_mul_right _ hroom;have hfl:=Qby hvss.size;rw [hvl] at hfl;have hmul2:(es.length+news.length)*te.size=es.length*te.size+news.length*te.size:=Nat.add_mul _ _ _;have hth:w.there b (p+es.length*te.size) vss.flatten.length:=fun j hj=>by
             have hj':p+es.length*te.size+j<cs.size:=by omega
             constructor
             ·simp [World.cell?,hg,hj']
             ·simp [World.frozen?,hg]
            have hrun:=run_app_room (ty:=ty) hu hE hu1 hn1 hlen hfcw (A:=some ⟨b,p,none⟩) (len:=es.length) (cap:=l.c) hroom (.inr ⟨b,p,rfl,hth,hvss.one,rfl⟩);have hvx:ρ x = .slice (some ⟨b,p,none⟩) es.length l.c:=by rw [he]; simp [Loc.addr,hA]
            obtain ⟨f1,f2,f3,f4,f5⟩:=Qbl b vss.flatten (p+es.length*te.size) w
            let l':Loc:=⟨some (b,p),es.length+news.length,l.c,te.size,noD⟩
            obtain ⟨cs',hg',hcs'⟩:=setCells_size (vs:=vss.flatten) (o:=p+es.length*te.size) hg (by omega);obtain ⟨m1,m2⟩:=hH.move hfr (w':=w.setCells b (p+es.length*te.size) vss.flatten) hl l' (.row false te.size (es++news)) f1 f2 f3 (by omega) (fun k _ hk=>f5 k fun e=>hk p (by rw [hA,e])) (fun b' p' he=>by cases Loc.has_no he; exact .inl ⟨p,.inl hA⟩) (fun ev=>by
             have hst:=PRE_store (i:=es.length) hg hPE hvss (Nat.le_refl _) (by omega) (ev.stay X);simp only [List.take_length] at hst;rw [List.drop_eq_nil_of_le (by omega),List.append_nil] at hst;simp only [OR];exact ⟨trivial,by simp [l'],rfl,hroom,h4,.inr ⟨b,p,t',cs',rfl,hg',by rw [hcs']; exact hcs,hst,fun h=>by cases h⟩⟩)
            refine ⟨_,_,_,_,x_append (by rw [hvx]; exact hrun),.inl rfl,?_,m1,m2,Qbs hfr.le,fun k hk h=>by rw [Phi.set_ne hk,Phi.set_ne (fun e=>by rw [←e,h] at hl; cases hl)]; exact h⟩;simp only [VR];refine ⟨rfl,(by rw [Phi.set_self]; intro h; cases h),fun _ l2 hl2=>?_⟩;rw [Phi.set_self] at hl2; cases hl2;simp [Loc.addr,l']
        ·cases h
       ·rename_i o off len hv
        split at h
        ·rename_i sz es ho;cases hb:(Qbg (len+news.length) te&&Nat.beq sz te.size) with
         | false=>simp [hb] at h
         | true =>
          simp only [hb,Bool.not_true,cond_false] at h;rw [Bool.and_eq_true,Nat.beq_eq] at hb;obtain ⟨hfit,rfl⟩:=hb;obtain ⟨z,l,hl,hO⟩:=hH.ob _ _ ho;rw [hv] at hx;simp only [VR] at hx;obtain ⟨A,c0,he,hle,hc0,hA0⟩:=hx.2.2 _ l hl;simp only [OR] at hO;obtain ⟨rfl,h1,h2,h3,h4,h5⟩:=hO;have hfl:=Qby hvss.size;rw [hvl] at hfl
          -- what room there is
          have room:len+news.length≤c0→∃b p t' cs,l.A=some (b,p)∧w.heap[b]?=some (.cells cs t' (0,0))∧p+l.c*te.size≤cs.size∧PRE w (YOf X φ) b te.size p es∧A=some ⟨b,p+off*te.size,none⟩∧p+(off+len+news.length)*te.size≤cs.size ∧
            (execOp ρ ⟨d,.call { callee:=.builtin .append,args:=#[x,y],argTypes:=#[t,t1] },ty,pos,af,g⟩).run P w = .ok (.value (.slice A (len+news.length) c0)) (w.setCells b (p+(off+len)*te.size) vss.flatten):=by
           intro hroom;rcases h5 with ⟨_,h6⟩|⟨b,p,t',cs,hA,hg,hcs,hPE,_⟩
           ·omega
           ·obtain ⟨hA1,_⟩:=hA0 (by omega);simp only [Loc.addr,hA,Option.map_some,h2] at hA1;have hmul:(off+len+news.length)*te.size≤l.c*te.size:=Nat.mul_le_mul_right _ (by omega);have hmul2:(off+len+news.length)*te.size=(off+len)*te.size+news.length*te.size:=Nat.add_mul _ _ _;have hmul3:(off+len)*te.size=off*te.size+len*te.size:=Nat.add_mul _ _ _;have hth:w.there b (p+(off+len)*te.size) vss.flatten.length:=fun j hj=>by
             have hj':p+(off+len)*te.size+j<cs.size:=by omega
             constructor
             ·simp [World.cell?,hg,hj']
             ·simp [World.frozen?,hg]
            refine ⟨b,p,t',cs,hA,hg,hcs,hPE,hA1,by omega,x_append ?_⟩;rw [he,hA1];refine run_app_room (ty:=ty) hu hE hu1 hn1 hlen hfcw hroom (.inr ⟨b,p+off*te.size,rfl,?_,hvss.one,?_⟩)
            ·rw [show p+off*te.size+len*te.size=p+(off+len)*te.size from by omega]; exact hth
            ·rw [show p+off*te.size+len*te.size=p+(off+len)*te.size from by omega]
          cases hb2:Nat.ble (off+len+news.length) es.length with
          | true =>
           simp only [hb2,cond_true,Option.some.injEq,Prod.mk.injEq] at h; obtain ⟨rfl,rfl⟩:=h;have hb2:=ble_t hb2;obtain ⟨b,p,t',cs,hA,hg,hcs,hPE,hA1,hfitc,hrun⟩:=room (by omega);obtain ⟨f1,f2,f3,f4,f5⟩:=Qbl b vss.flatten (p+(off+len)*te.size) w;have ev:=Ev.write (w:=w) (w':=w.setCells b (p+(off+len)*te.size) vss.flatten) hl hA f1 f2 f3 f4 f5;have hmul2:(off+len+news.length)*te.size=(off+len)*te.size+news.length*te.size:=Nat.add_mul _ _ _;obtain ⟨cs',hg',hcs'⟩:=setCells_size (vs:=vss.flatten) (o:=p+(off+len)*te.size) hg (by omega);have hst:=PRE_store (i:=off+len) hg hPE hvss (by omega) (by omega) (ev.stay X);refine ⟨_,_,_,φ,hrun,.inl rfl,?_,hH.write hl hA f1 f2 f3 f4 f5 ?_,ev,by rw [Qv]; exact Nat.le_refl _,fun _ _ h=>h⟩
           ·simp only [VR];refine ⟨rfl,hx.2.1,fun _ l2 hl2=>?_⟩;rw [hl] at hl2; cases hl2;exact ⟨A,c0,rfl,by omega,hc0,hA0⟩
           ·simp only [OR];exact ⟨trivial,by simp<;>omega,h2,h3,h4,.inr ⟨b,p,t',cs',hA,hg',by rw [hcs']; exact hcs,hst,fun h=>by cases h⟩⟩
          | false =>
           simp only [hb2,cond_false] at h;cases hb3:Nat.beq (off+len) es.length with
           | false=>simp [hb3] at h
           | true =>
            simp only [hb3,cond_true,Option.some.injEq,Prod.mk.injEq] at h; obtain ⟨rfl,rfl⟩:=h;rw [Nat.beq_eq] at hb3;have hdl:(es.drop off).length=len:=by simp; omega
            rcases Nat.lt_or_ge c0 (len+news.length) with hroom | hroom
            ·refine move_grow (es:=es.drop off) (A:=A) (cap:=c0) hl (by rw [hdl]; exact he) (by rw [hdl]; exact hroom) (by rw [hdl]; exact hfit) ?_;rw [hdl];rcases Nat.eq_zero_or_pos len with h0 | hpl
             ·exact .inl h0
             ·rcases h5 with ⟨_,h6⟩|⟨b,p,t',cs,hA,hg,hcs,hPE,_⟩
              ·omega
              ·obtain ⟨hA1,_⟩:=hA0 (by omega);exact .inr ⟨b,p+off*te.size,by rw [hA1]; simp [Loc.addr,hA,h2],hPE.drop off⟩
            ·obtain ⟨b,p,t',cs,hA,hg,hcs,hPE,hA1,hfitc,hrun⟩:=room hroom;obtain ⟨f1,f2,f3,f4,f5⟩:=Qbl b vss.flatten (p+(off+len)*te.size) w;have hmul2:(off+len+news.length)*te.size=(off+len)*te.size+news.length*te.size:=Nat.add_mul _ _ _;have hmul3:l.c*te.size=c0*te.size+off*te.size:=by rw [←hc0,Nat.add_mul]
             let l':Loc:=⟨some (b,p+off*te.size),len+news.length,c0,te.size,noD⟩
             obtain ⟨cs',hg',hcs'⟩:=setCells_size (vs:=vss.flatten) (o:=p+(off+len)*te.size) hg (by omega);obtain ⟨m1,m2⟩:=hH.move hfr (w':=w.setCells b (p+(off+len)*te.size) vss.flatten) hl l' (.row false te.size (es.drop off++news)) f1 f2 f3 (by omega) (fun k _ hk=>f5 k fun e=>hk p (by rw [hA,e])) (fun b' p' he=>by cases Loc.has_no he; exact .inl ⟨p,.inl hA⟩) (fun ev=>by
              have hst:=PRE_store (i:=off+len) hg hPE hvss (by omega) (by omega) (ev.stay X);rw [List.take_of_length_le (by omega),List.drop_eq_nil_of_le (by omega),List.append_nil] at hst;have hst2:=hst.drop off;rw [List.drop_append_of_le_length (by omega)] at hst2;simp only [OR];refine ⟨trivial,by simp [l',hdl]<;>omega,rfl,hroom,by show c0≤maxLen; omega,.inr ⟨b,p+off*te.size,t',cs',rfl,hg',?_,hst2,fun h=>by cases h⟩⟩;show p+off*te.size+c0*te.size≤cs'.size;omega)
             refine ⟨_,_,_,_,hrun,.inl rfl,?_,m1,m2,Qbs hfr.le,fun k hk h=>by rw [Phi.set_ne hk,Phi.set_ne (fun e=>by rw [←e,h] at hl; cases hl)]; exact h⟩;simp only [VR];refine ⟨rfl,(by rw [Phi.set_self]; intro h; cases h),fun _ l2 hl2=>?_⟩;rw [Phi.set_self] at hl2; cases hl2;simp [Loc.addr,l',hA1]
        ·cases h
       ·cases h
   ·cases h
 ·cases h
end
end Go.Proofs.Ytbgjlpdeoljmiaa
