/- Several texts in one. No condition. -/
import Derived.Test.YtbgjlpdeoljmiaaTG
import Derived.Deep.Slices
import Derived.Deep.Fields
import Derived.ProofKit
import Derived.ChangeSame
import Derived.IntWalk
namespace Go.Proofs.Ytbgjlpdeoljmiaa
set_option linter.unusedSimpArgs false
set_option linter.unusedVariables false
open Go.RowKit Go.ChangeShapes Go.WideShapes Go.Deep
theorem Qr{n:Int}(h1:-9223372036854775808≤n)(h2:n≤9223372036854775807):wr64 n=n:=Go.IntWalk.i64_in n ⟨h1,h2⟩
theorem Qx{α:Type}{xs rest:List α}{x:α}{k:Nat}(h:xs.drop k=x::rest):xs[k]?=some x∧k<xs.length∧xs.drop (k+1)=rest:=by
 have hk:k<xs.length:=by
  rcases Nat.lt_or_ge k xs.length with h1 | h1
  ·exact h1
  ·rw [List.drop_eq_nil_of_le h1] at h; cases h
 rw [List.drop_eq_getElem_cons hk] at h;simp only [List.cons.injEq] at h;exact ⟨by rw [List.getElem?_eq_getElem hk,h.1],hk,h.2⟩
theorem Qaj{α:Type}{xs:List α}{k:Nat}(h:xs.drop k=[]):xs.length≤k:=List.drop_eq_nil_iff.1 h
theorem size_list(s:ByteArray):(s.size:Int)=(s.data.toList.length:Int):=rfl
theorem Qao{n:Nat}(h:n≤maxLen):n<FUEL:=by
 have:maxLen<FUEL:=by unfold maxLen FUEL; decide
 omega

def WTF(T:Nat→Option TI)(rec:Nat→List PV→Prop):List (Nat×Nat)→List PV→Prop
 | [],ps=>ps=[]
 | (t,_)::fs,ps=>∃a b ti,ps=a++b∧T t=some ti∧a.length=ti.size∧rec t a∧WTF T rec fs b
def WT(T:Nat→Option TI):Nat→Nat→List PV→Prop
 | 0=>fun _ _=>False
 | d+1=>fun t ps=>match T t with
  | none=>False
  | some ti=>match ti.k with
   | .int k=>∃n,ps=[.int k n]∧(Lit.int k n).wf=true
   | .bool=>∃b,ps=[.bool b]
   | .str=>∃s,ps=[.str s]∧s.size≤maxLen
   | .sl e=>∃te es,T e=some te∧ps=[.sl .any te.size es]∧es.length≤maxLen∧∀c∈es,c.length=te.size∧WT T d e c
   | .struct fs=>WTF T (WT T d) fs ps
   | _=>False
def contig(T:Nat→Option TI)(ok:Nat→Bool):List (Nat×Nat)→Nat→Nat→Bool
 | [],o,n=>Nat.beq o n
 | (t,off)::fs,o,n=>match T t with | some ti=>Nat.beq off o&&ok t&&contig T ok fs (o+ti.size) n | none=>false
def niceB(T:Nat→Option TI):Nat→Nat→Bool
 | 0=>fun _=>false
 | d+1=>fun t=>match T t with
  | none=>false
  | some ti=>match ti.k with
   | .int _ | .bool | .str=>Nat.beq ti.size 1
   | .sl e=>Nat.beq ti.size 1&&niceB T d e&&(match T e with | some te=>Nat.blt 0 te.size | none=>false)
   | .struct fs=>contig T (niceB T d) fs 0 ti.size
   | _=>false
section
variable {P:Program} {C:Cfg} {H:Type} {enc:TypeId×Value→H} {w:World} {base:Nat} {spare:Nat→Bool} {held:Bool} {Y:Nat→Prop}
theorem wt_int{d t:Nat}{ti:TI}{k:IntKind}{ps:List PV}(ht:C.ty t=some ti)(hk:ti.k = .int k)(h:WT C.ty (d+1) t ps):∃n,ps=[.int k n]∧(Lit.int k n).wf=true:=by simpa only [WT,ht,hk] using h
theorem wt_bool{d t:Nat}{ti:TI}{ps:List PV}(ht:C.ty t=some ti)(hk:ti.k = .bool)(h:WT C.ty (d+1) t ps):∃b,ps=[.bool b]:=by simpa only [WT,ht,hk] using h
theorem wt_str{d t:Nat}{ti:TI}{ps:List PV}(ht:C.ty t=some ti)(hk:ti.k = .str)(h:WT C.ty (d+1) t ps):∃s,ps=[.str s]∧s.size≤maxLen:=by simpa only [WT,ht,hk] using h
theorem wt_sl{d t e:Nat}{ti:TI}{ps:List PV}(ht:C.ty t=some ti)(hk:ti.k = .sl e)(h:WT C.ty (d+1) t ps):∃te es,C.ty e=some te∧ps=[.sl .any te.size es]∧es.length≤maxLen∧∀c∈es,c.length=te.size∧WT C.ty d e c:=by simpa only [WT,ht,hk] using h
theorem wt_struct{d t:Nat}{ti:TI}{fs:List (Nat×Nat)}{ps:List PV}(ht:C.ty t=some ti)(hk:ti.k = .struct fs)(h:WT C.ty (d+1) t ps):WTF C.ty (WT C.ty d) fs ps:=by simpa only [WT,ht,hk] using h
theorem add_at(b o j:Nat):(⟨b,o,none⟩:Addr).add j=⟨b,o+j,none⟩:=by
 unfold Addr.add
 split
 ·rename_i h; subst h; rfl
 ·rfl
theorem prc_of:∀{ps:List PV} {cs:List Value} {b o:Nat},PRL w Y ps cs→(∀j v,cs[j]?=some v→w.cell? ⟨b,o+j,none⟩=some v)→PRC w Y b o ps
 | [],_,_,_,_,_=>by simp only [PRC]
 | p::ps,cs,b,o,h,hc=>by
  simp only [PRL] at h;obtain ⟨v,r,rfl,h1,h2,h3⟩:=h;simp only [PRC];refine ⟨⟨v,by simpa using hc 0 v rfl,h1,h2⟩,prc_of h3 fun j u hu=>?_⟩;have:=hc (j+1) u (by simpa using hu)
  rwa [show o+1+j=o+(j+1) from by omega]
theorem pre_of{sz b:Nat}{K:List PV→Prop} : ∀(len o:Nat),(∀i,i<len→∃ps,ps.length=sz∧PRC w Y b (o+i*sz) ps∧K ps)→∃es:List (List PV),es.length=len∧PRE w Y b sz o es∧∀c∈es,c.length=sz∧K c
 | 0,o,_=>⟨[],rfl,by simp only [PRE],fun _ h=>by cases h⟩
 | len+1,o,h=>by
  obtain ⟨p,h1,h2,h3⟩:=h 0 (by omega);obtain ⟨es,k1,k2,k3⟩:=pre_of len (o+sz) fun i hi=>by
   obtain ⟨q,q1,q2,q3⟩:=h (i+1) (by omega);refine ⟨q,q1,?_,q3⟩
   rwa [show o+sz+i*sz=o+(i+1)*sz from by rw [Nat.succ_mul]; omega]
  refine ⟨p::es,by simp [k1],?_,fun c hc=>?_⟩
  ·simp only [PRE];exact ⟨h1,by simpa using h2,k2⟩
  ·rcases List.mem_cons.1 hc with rfl | hc
   ·exact ⟨h1,h3⟩
   ·exact k3 c hc
theorem cells_of{t:Nat}{ti:TI}(h:Qcn P t ti=true):P.cellsOf t=ti.size:=by
 obtain ⟨i,z,hi,hs,_⟩:=Qbm h;simp [Program.cellsOf,hi,hs]
theorem open_wt(hC:Qad P C):∀(d t:Nat){fuel:Nat}{cs:List Value}{x:DataW H×List MemPlace},niceB C.ty d t=true→DataW.trod enc P w base spare held fuel t cs=some x→∃ps,PRL w (fun _=>False) ps cs∧WT C.ty d t ps
 | 0,t,fuel,cs,x,hn,_=>by simp [niceB] at hn
 | d+1,t,fuel,cs,x,hn,h=>by
  simp only [niceB] at hn
  split at hn
  ·cases hn
  ·rename_i ti hti;have hT:=hC.ty t ti hti
   split at hn
   ·rename_i k hk;obtain ⟨n,rfl,_,hw⟩:=DataW.trod_int (und_int hT hk) h;exact ⟨[.int k n],by simp only [PRL,PR]; exact ⟨_,_,rfl,rfl,rfl,rfl⟩,by simp only [WT,hti,hk]; exact ⟨n,rfl,hw⟩⟩
   ·rename_i hk;obtain ⟨b,rfl,_⟩:=DataW.trod_bool (und_bool hT hk) h;exact ⟨[.bool b],by simp only [PRL,PR]; exact ⟨_,_,rfl,rfl,rfl,rfl⟩,by simp only [WT,hti,hk]; exact ⟨b,rfl⟩⟩
   ·rename_i hk;obtain ⟨s,rfl,_,hs⟩:=DataW.trod_string (und_str hT hk) h;exact ⟨[.str s],by simp only [PRL,PR]; exact ⟨_,_,rfl,rfl,rfl,rfl⟩,by simp only [WT,hti,hk]; exact ⟨s,rfl,hs⟩⟩
   ·rename_i e hk
    split at hn
    ·rename_i te hte;simp only [Bool.and_eq_true,Nat.blt_eq] at hn;obtain ⟨⟨_,hne⟩,hpos⟩:=hn;have hsz:=cells_of (hC.ty e te hte);rcases open_slice (Qct hT hk) h with ⟨rfl,_⟩|⟨a,len,cap,m,n,D,Pl,rfl,hb,hl,hm,hmm,_,hi⟩
     ·exact ⟨[.sl .any te.size []],by simp only [PRL,PR,flOk]; exact ⟨_,_,rfl,rfl,⟨none,0,rfl,Nat.le_refl _,Nat.zero_le _,trivial,.inl rfl⟩,rfl⟩,by simp only [WT,hti,hk]; exact ⟨te,[],hte,rfl,Nat.zero_le _,fun _ h=>by cases h⟩⟩
     ·rw [hsz] at hi
      by_cases h0:len=0
      ·subst h0;exact ⟨[.sl .any te.size []],by simp only [PRL,PR,flOk]; exact ⟨_,_,rfl,rfl,⟨some a,cap,rfl,Nat.zero_le _,hm,trivial,.inl rfl⟩,rfl⟩,by simp only [WT,hti,hk]; exact ⟨te,[],hte,rfl,Nat.zero_le _,fun _ h=>by cases h⟩⟩
      ·have hel:∀i,i<len→∃cs',cs'.length=te.size∧(∀j v,cs'[j]?=some v→w.cell? ((a.add (i*te.size)).add j)=some v)∧∃ps,PRL w (fun _=>False) ps cs'∧WT C.ty d e ps:=fun i hil=>by
        have him:i<m:=by rw [hmm]; split<;>omega
        obtain ⟨cs',hc,ht'⟩:=hi i him;obtain ⟨_,hcl,hat⟩:=World.cells?_some hc;obtain ⟨ps,q1,q2⟩:=open_wt hC d e hne ht';refine ⟨cs',hcl,fun j v hv=>?_,ps,q1,q2⟩;have hj:j<cs'.length:=(List.getElem?_eq_some_iff.1 hv).1;rw [hat j (by omega),hv]
       obtain ⟨cs0,hl0,hc0,_⟩:=hel 0 (by omega);obtain ⟨v0,hv0⟩:∃v,cs0[0]?=some v:=⟨_,List.getElem?_eq_getElem (by omega)⟩;have hcell:=hc0 0 v0 hv0;have ha0:(a.add (0*te.size)).add 0=a:=by simp [Addr.add]
       rw [ha0] at hcell;obtain ⟨g,o,s⟩:=a;have hs:s=none:=World.cell?_spot hcell;subst hs;obtain ⟨es,k1,k2,k3⟩:=pre_of (w:=w) (Y:=fun _=>False) (sz:=te.size) (b:=g) (K:=WT C.ty d e) len o fun i hil=>by
        obtain ⟨cs',q1,q2,ps,q3,q4⟩:=hel i hil;refine ⟨ps,by rw [←q3.length]; exact q1,prc_of q3 fun j v hv=>?_,q4⟩;have:=q2 j v hv
        rwa [add_at,add_at] at this
       refine ⟨[.sl .any te.size es],?_,?_⟩
       ·simp only [PRL,PR,flOk];exact ⟨_,_,rfl,rfl,⟨some ⟨g,o,none⟩,cap,by rw [k1],by omega,hm,trivial,.inr ⟨g,o,rfl,not_false,World.block_lt_of_cell? w _ hcell,k2⟩⟩,rfl⟩
       ·simp only [WT,hti,hk];exact ⟨te,es,hte,rfl,by omega,k3⟩
    ·simp at hn
   ·rename_i fs hk;obtain ⟨gs,hu,hgs⟩:=Qcq hT hk;obtain ⟨xs,n,_,_,hlen,hxl,hf⟩:=DataW.trod_struct hu h;rw [cells_of hT] at hlen;have key:∀(r:List (Nat×Nat))(j o:Nat),(∀i q,r[i]?=some q→fs[j+i]?=some q)→o≤cs.length→contig C.ty (niceB C.ty d) r o ti.size=true→∃ps,PRL w (fun _=>False) ps (cs.drop o)∧WTF C.ty (WT C.ty d) r ps:=by
     intro r
     induction r with
     | nil =>
      intro j o _ _ hc;simp only [contig] at hc;have:=Nat.eq_of_beq_eq_true hc;exact ⟨[],by rw [List.drop_eq_nil_of_le (by omega)]; simp only [PRL],by simp only [WTF]⟩
     | cons q r ih =>
      obtain ⟨ft,off⟩:=q;intro j o hr ho hc;simp only [contig] at hc
      split at hc
      ·rename_i tf htf;simp only [Bool.and_eq_true] at hc;obtain ⟨⟨hoff,hnf⟩,hcr⟩:=hc;obtain rfl:=Nat.eq_of_beq_eq_true hoff;obtain ⟨g,hg,rfl,hgo,_⟩:=fieldsOK_at hgs (i:=j) (by simpa using hr 0 _ rfl);have h1:=hf j g (by simpa using hg);rw [hgo,cells_of (hC.ty _ tf htf)] at h1;have hjx:j<xs.length:=by rw [hxl]; simpa using (List.getElem?_eq_some_iff.1 hg).1
       rw [List.getElem?_eq_getElem hjx] at h1;obtain ⟨a,q1,q2⟩:=open_wt hC d g.type hnf h1;have tot:∀(r:List (Nat×Nat))(o n:Nat),contig C.ty (niceB C.ty d) r o n=true→o≤n:=by
        intro r
        induction r with
        | nil=>intro o n h; simp only [contig] at h; have:=Nat.eq_of_beq_eq_true h; omega
        | cons q r ih =>
         intro o n h;obtain ⟨_,_⟩:=q;simp only [contig] at h
         split at h
         ·simp only [Bool.and_eq_true] at h;have:=ih _ _ h.2; omega
         ·cases h
       have hle:=tot r _ _ hcr;obtain ⟨b,k1,k2⟩:=ih (j+1) (off+tf.size) (fun i q hq=>by have:=hr (i+1) q (by simpa using hq); rwa [show j+1+i=j+(i+1) from by omega]) (by omega) hcr;refine ⟨a++b,?_,?_⟩
       ·have:=q1.append k1
        rwa [←List.drop_drop,List.take_append_drop] at this
       ·simp only [WTF];exact ⟨a,b,tf,rfl,htf,by rw [←q1.length]; simp; omega,q2,k2⟩
      ·cases hc
    obtain ⟨ps,q1,q2⟩:=key fs 0 0 (fun i q h=>by simpa using h) (Nat.zero_le _) hn;exact ⟨ps,by simpa using q1,by simp only [WT,hti,hk]; exact q2⟩
   ·cases hn
theorem list_of{α:Type}{K:List PV→Prop}{c:α→List PV}{ok:α→Prop}(h:∀ps,K ps→∃x,ps=c x∧ok x):∀es:List (List PV),(∀q∈es,K q)→∃xs:List α,es=xs.map c∧∀x∈xs,ok x
 | [],_=>⟨[],rfl,fun _ h=>by cases h⟩
 | q::es,hq=>by
  obtain ⟨x,rfl,hx⟩:=h q (hq q List.mem_cons_self);obtain ⟨xs,rfl,hxs⟩:=list_of h es fun q h=>hq q (List.mem_cons_of_mem _ h);exact ⟨x::xs,rfl,fun y hy=>by
   rcases List.mem_cons.1 hy with rfl | hy
   ·exact hx
   ·exact hxs y hy⟩
def okInt(k:IntKind)(n:Int):Prop:=(Lit.int k n).wf=true
theorem okInt.range{k:IntKind}{n:Int}(h:okInt k n):k.min≤n∧n≤k.max:=by simpa [okInt,Lit.wf] using h
theorem okInt.u8{n:Int}(h:okInt .u8 n):0≤n∧n≤255:=h.range
theorem okInt.u64{n:Int}(h:okInt .u64 n):0≤n∧n≤18446744073709551615:=h.range
def WV(T:Nat→Option TI)(d t:Nat)(p:PV):Prop:=match T t with
 | some ti=>match ti.k.row with
  | true=>∃cs,p = .agg cs∧WT T d t cs
  | false=>oneP p=true∧WT T d t [p]
 | none=>False
theorem wv_row{d t:Nat}{ti:TI}{p:PV}(ht:C.ty t=some ti)(hk:ti.k.row=true)(h:WV C.ty d t p):∃cs,p = .agg cs∧WT C.ty d t cs:=by simpa only [WV,ht,hk] using h
theorem wv_one{d t:Nat}{ti:TI}{p:PV}(ht:C.ty t=some ti)(hk:ti.k.row=false)(h:WV C.ty d t p):oneP p=true∧WT C.ty d t [p]:=by simpa only [WV,ht,hk] using h
theorem open_val(hC:Qad P C){d t b0:Nat}{r:Reach}{v:Value}{D:DataW H}{ps:List MemPlace}(hn:niceB C.ty d t=true)(hval:Value.okWide P w r b0 t v)(h:DataW.Trod enc P w base spare held t v D ps):∃p,PR w (fun _=>False) p v∧WV C.ty d t p:=by
 obtain ⟨fuel,h⟩:=h;obtain ⟨qs,h1,h2⟩:=open_wt hC d t hn h;cases d with
 | zero=>simp [niceB] at hn
 | succ d =>
  have hn0:=hn;simp only [niceB] at hn
  split at hn
  ·cases hn
  ·rename_i ti hti;have hT:=hC.ty t ti hti;have one:∀{u:TypeDesc},ti.k.row=false→qs.length=1→(∀a,v≠.agg a)→∃p,PR w (fun _=>False) p v∧WV C.ty (d+1) t p:=fun {u} hr hl hv=>by
    have hc:v.cells.toList=[v]:=by cases v<;>first | rfl | exact absurd rfl (hv _)
    rw [hc] at h1
    match qs,hl with
    | [p],_ =>
     simp only [PRL] at h1;obtain ⟨v',r',e,ho,hp,_⟩:=h1;simp only [List.cons.injEq] at e;obtain ⟨rfl,_⟩:=e;exact ⟨p,hp,by simp only [WV,hti,hr]; exact ⟨ho,h2⟩⟩
   split at hn
   ·rename_i k hk;obtain ⟨n,rfl,_⟩:=wt_int hti hk h2;obtain ⟨m,rfl⟩:=okWide_int (und_int hT hk) hval;exact one (u:=.bool) (by rw [hk]; rfl) rfl (fun a h=>by cases h)
   ·rename_i hk;obtain ⟨n,rfl⟩:=wt_bool hti hk h2;obtain ⟨m,rfl⟩:=okWide_bool (und_bool hT hk) hval;exact one (u:=.bool) (by rw [hk]; rfl) rfl (fun a h=>by cases h)
   ·rename_i hk;obtain ⟨n,rfl,_⟩:=wt_str hti hk h2;obtain ⟨m,rfl⟩:=okWide_string (und_str hT hk) hval;exact one (u:=.bool) (by rw [hk]; rfl) rfl (fun a h=>by cases h)
   ·rename_i e hk;obtain ⟨te,es,_,rfl,_⟩:=wt_sl hti hk h2;obtain ⟨a,l,c,rfl⟩:=okWide_slice (Qct hT hk) hval;exact one (u:=.bool) (by rw [hk]; rfl) rfl (fun a h=>by cases h)
   ·rename_i fs hk;obtain ⟨gs,hu,_⟩:=Qcq hT hk;obtain ⟨cs,rfl,_⟩:=okWide_struct hu hval;refine ⟨.agg qs,by simp only [PR]; exact ⟨cs.toList,by simp,h1⟩,?_⟩;have hr:ti.k.row=true:=by rw [hk]; rfl
    simp only [WV,hti,hr];exact ⟨qs,rfl,h2⟩
   ·cases hn
theorem law_call{k:Nat}{ps:List PV}{vs:List Value}{b:Bool} (h:Qm P false k (ps.map .pl) [] (.pl (.bool b)) []) (hv:VRT w (fun _=>False) noPhi (ps.map .pl) vs) (ht:TabOK noPhi w:=by exact fun x hx=>by cases (show x∈([]:List (Nat×List Value)) from hx)):Calls P k vs.toArray w fun e w'=>e = .returned (.bool b)∧Below w.heap.size w w':=by
 obtain ⟨_,_,hc⟩:=h;have hY:YOf (fun _=>False) noPhi=fun _=>False:=funext fun b=>propext ⟨fun h=>h.elim id fun h=>(noBlk b h).elim,fun h=>h.elim⟩;refine (hc (fun _=>rfl) (fun _=>False) noPhi w vs (HR.empty ⟨fun _ h=>h.elim,ht⟩) (by rw [hY]; exact hv)).mono fun e w' hr=>?_;obtain ⟨r,hm,v',φ',he,h1,h2,h3,_⟩:=hr;rw [List.mem_singleton] at hm; subst hm;simp only [VR,PR] at h1;subst h1;exact ⟨he,h3.os,h3.tape,h3.output.1,h3.size,fun b hb=>h3.heap b hb (noBlk b)⟩
theorem vrt_nil:VRT w (fun _=>False) noPhi [] []:=by simp only [VRT]
theorem vrt_cons{p:PV}{v:Value}{ps:List AV}{vs:List Value}(h:PR w (fun _=>False) p v)(t:VRT w (fun _=>False) noPhi ps vs):VRT w (fun _=>False) noPhi (.pl p::ps) (v::vs):=by
 simp only [VRT];exact ⟨v,vs,rfl,by simp only [VR]; exact h,t⟩
end
end Go.Proofs.Ytbgjlpdeoljmiaa
namespace Go.Proofs.Ytbgjlpdeoljmiaa
set_option linter.unusedSimpArgs false
set_option linter.unusedVariables false
open Go.RowKit
def pInt(k:IntKind)(n:Int):PV:=.int k n
def pStr(s:ByteArray):PV:=.str s
def pAgg{α:Type}(c:α→List PV)(x:α):PV:=.agg (c x)
def mkv{K V:Type}(kp:K→PV)(vp:V→PV)(p:K×V):PV×PV:=(kp p.1,vp p.2)
section
variable {K V:Type}
def mIdx(keq:K→K→Bool)(k:K):List (K×V)→Nat
 | []=>0
 | (q,_)::r=>bif keq k q then 0 else mIdx keq k r+1
def mHas(keq:K→K→Bool)(k:K):List (K×V)→Bool
 | []=>false
 | (q,_)::r=>keq k q||mHas keq k r
def mGet(keq:K→K→Bool)(z:V)(k:K):List (K×V)→V
 | []=>z
 | (q,v)::r=>bif keq k q then v else mGet keq z k r
def mPut(keq:K→K→Bool)(k:K)(v:V):List (K×V)→List (K×V)
 | []=>[(k,v)]
 | (q,w)::r=>bif keq k q then (q,v)::r else (q,w)::mPut keq k v r
def mEns(keq:K→K→Bool)(z:V)(k:K):List (K×V)→List (K×V)
 | []=>[(k,z)]
 | (q,w)::r=>bif keq k q then (q,w)::r else (q,w)::mEns keq z k r
structure KeyOK (C:Cfg) (kt:Nat) (kp:K→PV) (keq:K→K→Bool):Prop where
 eq:∀a b,eqV C.ty kt (kp a) (kp b)=some (keq a b)
 key:∀a,keyV C.ty kt (kp a)=true
 same:∀a b,keq a b=true→a=b
 eqc:∀a,eqC (kp a) (kp a)=true
variable {C:Cfg} {kt e:Nat} {kp:K→PV} {keq:K→K→Bool} {vp:V→PV}
theorem mfind_map(h:KeyOK C kt kp keq)(k:K):∀(E:List (K×V))(i:Nat),mfind C.ty kt (kp k) (E.map (mkv kp vp)) i=some (bif mHas keq k E then (E[mIdx keq k E]?).map fun p=>(i+mIdx keq k E,vp p.2) else none)
 | [],i=>rfl
 | (q,v)::r,i=>by
  simp only [List.map_cons,mkv,mfind,h.eq,mHas,mIdx];cases hk:keq k q with
  | true=>simp [hk]
  | false =>
   have:=mfind_map h k r (i+1);simp only [this,Bool.false_or,cond_false,List.getElem?_cons_succ];cases mHas keq k r with
   | false=>rfl
   | true=>simp only [cond_true]; congr 2; funext p; congr 1; omega
theorem mGet_at(keq:K→K→Bool)(z:V)(k:K)(hs:∀a b,keq a b=true→a=b):∀(E:List (K×V)),mHas keq k E=true→E[mIdx keq k E]?=some (k,mGet keq z k E)
 | [],h=>by cases h
 | (q,v)::r,h=>by
  simp only [mHas,Bool.or_eq_true] at h;simp only [mIdx,mGet];cases hk:keq k q with
  | true=>simp [hs k q hk]
  | false =>
   rw [hk] at h;simpa using mGet_at keq z k hs r (h.resolve_left (by simp))
theorem mGet_none(keq:K→K→Bool)(z:V)(k:K):∀(E:List (K×V)),mHas keq k E=false→mGet keq z k E=z∧mIdx keq k E=E.length∧mEns keq z k E=E++[(k,z)]∧∀v,mPut keq k v E=E++[(k,v)]
 | [],h=>⟨rfl,rfl,rfl,fun _=>rfl⟩
 | (q,v)::r,h=>by
  simp only [mHas,Bool.or_eq_false_iff] at h;obtain ⟨h1,h2,h3,h4⟩:=mGet_none keq z k r h.2;simp [mGet,mIdx,mEns,mPut,h.1,h1,h2,h3,h4]
theorem mEns_some(keq:K→K→Bool)(z:V)(k:K):∀(E:List (K×V)),mHas keq k E=true→mEns keq z k E=E
 | [],h=>by cases h
 | (q,v)::r,h=>by
  simp only [mHas,Bool.or_eq_true] at h;simp only [mEns];cases hk:keq k q with
  | true=>rfl
  | false =>
   rw [hk] at h;simp [mEns_some keq z k r (h.resolve_left (by simp))]
theorem mPut_some(keq:K→K→Bool)(k:K)(v:V)(hs:∀a b,keq a b=true→a=b):∀(E:List (K×V)),mHas keq k E=true→mPut keq k v E=E.set (mIdx keq k E) (k,v)
 | [],h=>by cases h
 | (q,w)::r,h=>by
  simp only [mHas,Bool.or_eq_true] at h;simp only [mPut,mIdx];cases hk:keq k q with
  | true=>simp [hs k q hk]
  | false =>
   rw [hk] at h;simp [mPut_some keq k v hs r (h.resolve_left (by simp))]
theorem look_map(h:KeyOK C kt kp keq)(z:V)(hz:zeroOf C e=some (vp z))(k:K)(E:List (K×V)):look C kt e (kp k) (E.map (mkv kp vp))=some (vp (mGet keq z k E),mHas keq k E):=by
 unfold look;rw [mfind_map h,h.key];simp only [cond_true];cases hh:mHas keq k E with
 | true=>simp [mGet_at keq z k h.same E hh]
 | false=>simp [hz,(mGet_none keq z k E hh).1]
theorem mset_map(h:KeyOK C kt kp keq)(k:K)(v:V)(E:List (K×V)):mset C.ty kt (kp k) (vp v) (E.map (mkv kp vp))=some ((mPut keq k v E).map (mkv kp vp)):=by
 unfold mset;rw [mfind_map h,h.key];simp only [cond_true];cases hh:mHas keq k E with
 | true =>
  have hx:=mGet_at keq v k h.same E hh;simp only [cond_true,hx,Option.map_some,Nat.zero_add,List.getElem?_map,mkv,h.eqc];rw [mPut_some keq k v h.same E hh,List.map_set]; rfl
 | false=>simp [(mGet_none keq v k E hh).2.2.2,mkv]
theorem ment_map(h:KeyOK C kt kp keq)(z:V)(hz:zeroOf C e=some (vp z))(k:K)(E:List (K×V)):ment C kt e (kp k) (E.map (mkv kp vp))=some (vp (mGet keq z k E),mIdx keq k E,(mEns keq z k E).map (mkv kp vp)):=by
 unfold ment;rw [mfind_map h,h.key];simp only [cond_true];cases hh:mHas keq k E with
 | true =>
  have hx:=mGet_at keq z k h.same E hh;simp only [cond_true,hx,Option.map_some,Nat.zero_add,List.getElem?_map,mkv,h.eqc];rw [mEns_some keq z k E hh]
 | false =>
  obtain ⟨h1,h2,h3,_⟩:=mGet_none keq z k E hh;simp [hz,h1,h2,h3,mkv]
theorem mst_at(h:KeyOK C kt kp keq)(z:V)(k:K)(E:List (K×V)):((mEns keq z k E).map (mkv kp vp))[mIdx keq k E]?=some (kp k,vp (mGet keq z k E)):=by
 rw [List.getElem?_map];cases hh:mHas keq k E with
 | true=>rw [mEns_some keq z k E hh,mGet_at keq z k h.same E hh]; rfl
 | false =>
  obtain ⟨h1,h2,h3,_⟩:=mGet_none keq z k E hh;simp [h1,h2,h3,mkv]
theorem mst_put(h:KeyOK C kt kp keq)(z v:V)(k:K)(E:List (K×V)):((mEns keq z k E).map (mkv kp vp)).set (mIdx keq k E) (kp k,vp v)=(mPut keq k v E).map (mkv kp vp):=by
 cases hh:mHas keq k E with
 | true=>rw [mEns_some keq z k E hh,mPut_some keq k v h.same E hh,List.map_set]; rfl
 | false =>
  obtain ⟨h1,h2,h3,h4⟩:=mGet_none keq z k E hh;simp [h2,h3,h4,mkv]
theorem seq_eq'{a b:ByteArray}(h:seq a b=true):a=b:=bytes_eq (by simpa [seq] using h)
theorem key_str{C:Cfg}{kt:Nat}(h1:∀a b,eqV C.ty kt (pStr a) (pStr b)=some (seq a b))(h2:∀a,keyV C.ty kt (pStr a)=true):KeyOK C kt pStr seq:=⟨h1,h2,fun a b h=>seq_eq' h,fun a=>by simp [pStr,eqC,eqC1]⟩
end
abbrev shlK(k:IntKind)(a b:Int):Int:=k.wrap (a*2 ^ (min b.toNat k.bits))
abbrev shrK(k:IntKind)(a b:Int):Int:=a.fdiv (2 ^ (min b.toNat k.bits))
theorem le_of{n:Int} (h:decide ((0:Int)≤n)=true):(0:Int)≤n:=of_decide_eq_true h
end Go.Proofs.Ytbgjlpdeoljmiaa
namespace Go.Proofs.Ytbgjlpdeoljmiaa
set_option linter.unusedSimpArgs false
set_option linter.unusedVariables false
open Go.RowKit
section
variable {P:Program} {C:Cfg} {w w':World} {X:Nat→Prop} {φ φ':Phi} {H H':Hp} {nid n base:Nat} {s:Tr} {a:Act} {D:List Deferred} {st st':Tr×Hp}
def isNextQ:Code→Option (Operand×Nat×Nat)
 | .region _ ops false=>match ops.toList with
  | [⟨some t,.next x false,_,_,_,none⟩,⟨some tb,.extract (.tmp t') 0,_,_,_,none⟩]=>bif Nat.beq t t' then some (x,t,tb) else none
  | _=>none
 | _=>none
def nextS(n:Nat)(st:Tr×Hp)(t tb:Nat)(v:List AV)(b:Bool)(H:Hp):Tr×Hp:=(putO n (putO n st.1 (some t) (.tup (.pl (.bool b)::v))) (some tb) (.pl (.bool b)),H)
theorem T.next(hC:Qad P C){c:Code}{x:Operand}{t tb i o m:Nat}{seen:List Nat}{kvs:List (PV×PV)}{Q:Ex×Tr×Hp→Prop}(hq:isNextQ c=some (x,t,tb))(ht:Nat.blt t n=true)(hx:val st.1 x = .it i)(hi:hget st.2 i=some (.iter o m seen))(ho:hget st.2 o=some (.map kvs))(hm:kvs.length=m)
  (h0:(∀j,j<m→j∈seen)→Q (.norm,nextS n st t tb [] false st.2))
  (h1:∀j k v,j<m→j∉seen→kvs[j]?=some (k,v)→Q (.norm,nextS n st t tb [.pl k,.pl v] true (hset st.2 i (some (.iter o m (seen++[j])))))):T P n base c st Q:=by
 unfold isNextQ at hq
 split at hq
 ·rename_i id ops
  split at hq
  ·rename_i d3 x0 ty1 p1 a1 d4 t' ty2 p2 a2 hops;cases hb3:Nat.beq d3 t' with
   | false=>simp [hb3] at hq
   | true =>
    simp only [hb3,cond_true,Option.some.injEq,Prod.mk.injEq] at hq;obtain ⟨rfl,rfl,rfl⟩:=hq;obtain rfl:d3=t':=Nat.eq_of_beq_eq_true hb3;intro _ ro _ D X φ a w hS hb;refine wpIn_region_list ?_;rw [hops];unfold wpListIn;rw [if_pos (by rfl)];have hcall:CallOK P (fun _ _ _ _=>none):=fun _ _ _ _ _ h=>by cases h
    obtain ⟨outs,hev,hout⟩:∃outs,evNext st.2 (.it i)=some outs∧∀r∈outs,Q (.norm,(putO n (putO n st.1 (some d3) r.1) (some d4) (match r.1 with | .tup (b::_)=>b | _=>.un),r.2))∧∃b vs,r.1 = .tup (b::vs):=by
     unfold evNext;simp only [hi,ho];rw [hm];simp only [Nat.beq_refl,cond_true];cases hl:(List.range m).filter (fun j=>!(seen.any (Nat.beq j))) with
     | nil =>
      refine ⟨_,rfl,fun r hr=>?_⟩;rw [List.mem_singleton] at hr; subst hr;refine ⟨h0 fun j hj=>?_,_,_,rfl⟩;have:=List.filter_eq_nil_iff.1 hl j (List.mem_range.2 hj);simp only [Bool.not_eq_true',Bool.not_eq_false,List.any_eq_true] at this;obtain ⟨q,hq,e⟩:=this;rw [Nat.eq_of_beq_eq_true e]; exact hq
     | cons a0 l0 =>
      refine ⟨_,rfl,fun r hr=>?_⟩;obtain ⟨j,hj,rfl⟩:=List.mem_map.1 hr;have hj2:j∈(List.range m).filter (fun j=>!(seen.any (Nat.beq j))):=by rw [hl]; exact hj
      rw [List.mem_filter,List.mem_range] at hj2;obtain ⟨hlt,hns⟩:=hj2;have hx2:kvs[j]?=some kvs[j]:=List.getElem?_eq_getElem (by omega);simp only [hx2];refine ⟨h1 j kvs[j].1 kvs[j].2 hlt (fun hc=>?_) hx2,_,_,rfl⟩;have:seen.any (Nat.beq j)=true:=List.any_eq_true.2 ⟨j,hc,by simp⟩;rw [this] at hns; cases hns
    refine op_ok hC hcall hS.hr hS.hr.free hS.val (outs:=outs) (by unfold evOp; simp only [hx,hev]) fun v' w' hn=>?_;obtain ⟨r,hr,φ',k1,k2,k3,k4,k5⟩:=hn;obtain ⟨hQ,b,vs,hr1⟩:=hout r hr;have hS2:=hS.put k3 k2 k1 (some d3);unfold wpListIn;rw [if_pos (by rfl)];have hg:(putO n st.1 (some d3) r.1).get 12 d3=r.1∨(putO n st.1 (some d3) r.1).get 12 d3 = .un:=by
     simp only [putO,ht,cond_true];exact Qca 12 _ _ _
    have hd:d3<a.tmps.size:=by rw [hS.size]; exact (Nat.blt_eq ▸ ht:d3<n)
    have hval:(a.put (some d3) v').eval (.tmp d3)=v':=by
     simp only [Act.eval,Act.put];simp [Array.getD_eq_getD_getElem?,Array.getElem?_setIfInBounds,hd]
    have hvr:∀y,VR w' (YOf X φ') φ' ((fun y=>match y with | .tmp q=>bif Nat.beq q d3 then r.1 else .un | _=>.un:Operand→AV) y) ((a.put (some d3) v').eval y):=fun y=>by
     cases y with
     | tmp q =>
      simp only;rcases Qak q d3 with ⟨hb,e⟩|⟨hb,e⟩
      ·subst e; rw [hb,cond_true,hval]; exact k1
      ·rw [hb]; simp only [cond_false,VR]
     | _=>simp only [VR]
    refine op_pure (nid:=r.2.length) hC k2 k2.free hvr (outs:=[(b,r.2)]) (by simp only [Ql,Nat.beq_refl,cond_true,hr1]; rfl) fun v2 w2 hn2=>?_;obtain ⟨r2,hr2,φ2,m1,m2,m3,m4,m5⟩:=hn2;rw [List.mem_singleton] at hr2; subst hr2;unfold wpListIn;refine ⟨_,hQ,rfl,φ2,?_,?_,?_⟩
    ·have:=hS2.put m3 m2 m1 (some d4);rw [hr1]; rw [hr1] at this; exact .of this
    ·exact (k3.b fun o ho e=>k5 o (by omega) (by omega) e).trans (m3.b fun o ho e=>m5 o (by simp only at m4 k4; omega) (by omega) e)
    ·simp only at m4 ⊢; omega
  ·cases hq
 ·cases hq
end
end Go.Proofs.Ytbgjlpdeoljmiaa
namespace Go.Proofs.Ytbgjlpdeoljmiaa
set_option linter.unusedSimpArgs false
set_option linter.unusedVariables false
open Go.RowKit
open Classical in
noncomputable def anyOrder{α β:Type}(E:List α)(g:List α→Option β):Option β:=match E with
 | []=>g []
 | [x]=>g [x]
 | x::y::l=>if h:∃o,∀p,p.Perm (x::y::l)→g p=some o then some h.choose else none
theorem anyOrder_at{α β:Type}{E:List α}{g:List α→Option β}{o:β}(h:anyOrder E g=some o):∀p,p.Perm E→g p=some o:=by
 unfold anyOrder at h
 split at h
 ·intro p hp; rw [List.Perm.eq_nil hp]; exact h
 ·rename_i x; intro p hp; rw [List.perm_singleton.1 hp]; exact h
 ·split at h
  ·rename_i hx;simp only [Option.some.injEq] at h; subst h;exact hx.choose_spec
  ·cases h
theorem anyOrder_of{α β:Type}{E:List α}{g:List α→Option β}{o:β}(h:∀p,p.Perm E→g p=some o):anyOrder E g=some o:=by
 unfold anyOrder
 split
 ·exact h [] (List.Perm.refl _)
 ·exact h _ (List.Perm.refl _)
 ·rename_i x y l;have hx:∃o,∀p,p.Perm (x::y::l)→g p=some o:=⟨o,h⟩;rw [dif_pos hx,←hx.choose_spec _ (List.Perm.refl _),h _ (List.Perm.refl _)]
def ords{α:Type}(E:List α)(p:List Nat):List α:=p.filterMap fun j=>E[j]?
theorem ords_cons{α:Type}{E:List α}{j:Nat}{x:α}{p:List Nat}(h:E[j]?=some x):ords E (j::p)=x::ords E p:=by
 unfold ords; rw [List.filterMap_cons]; simp only [h]
theorem ords_range{α:Type}(E:List α):ords E (List.range E.length)=E:=by
 unfold ords
 apply List.ext_getElem?
 intro i;have key:∀(k:Nat)(l:List α),(∀j,j<l.length→E[k+j]?=l[j]?)→(List.range' k l.length).filterMap (fun j=>E[j]?)=l:=by
  intro k l
  induction l generalizing k with
  | nil=>intro _; rfl
  | cons a r ih =>
   intro h;have h0:=h 0 (by simp);simp only [Nat.add_zero,List.getElem?_cons_zero] at h0;rw [List.length_cons,List.range'_succ,List.filterMap_cons];simp only [h0];rw [ih (k+1) fun j hj=>by have:=h (j+1) (by simpa using hj); rw [show k+1+j=k+(j+1) from by omega,this]; simp]
 rw [List.range_eq_range',key 0 E fun j _=>by rw [Nat.zero_add]]
theorem ords_perm{α:Type}{E:List α}{p:List Nat}(h:p.Perm (List.range E.length)):(ords E p).Perm E:=by
 have:=List.Perm.filterMap (fun j=>E[j]?) h;rw [show List.filterMap (fun j=>E[j]?) (List.range E.length)=E from ords_range E] at this;exact this
structure Rem (m:Nat) (seen rem:List Nat):Prop where
 nodup:rem.Nodup
 mem:∀j,j∈rem↔j<m∧j∉seen
theorem Rem.start(m:Nat):Rem m [] (List.range m):=⟨List.nodup_range,fun j=>by simp⟩
theorem Rem.step{m:Nat}{seen rem:List Nat}{j:Nat}(h:Rem m seen rem)(hj:j<m)(hs:j∉seen):Rem m (seen++[j]) (rem.erase j)∧(rem.erase j).length+1=rem.length∧∀p,p.Perm (rem.erase j)→(j::p).Perm rem:=by
 have hm:j∈rem:=(h.mem j).2 ⟨hj,hs⟩;refine ⟨⟨h.nodup.erase j,fun q=>?_⟩,?_,fun p hp=>(hp.cons j).trans (List.perm_cons_erase hm).symm⟩
 ·rw [h.nodup.mem_erase_iff,h.mem,List.mem_append,List.mem_singleton]
  constructor
  ·rintro ⟨h1,h2,h3⟩; exact ⟨h2,fun hc=>hc.elim h3 h1⟩
  ·rintro ⟨h1,h2⟩; exact ⟨fun hc=>h2 (.inr hc),h1,fun hc=>h2 (.inl hc)⟩
 ·rw [List.length_erase_of_mem hm];have:=List.length_pos_of_mem hm;omega
theorem Rem.none{m:Nat}{seen rem:List Nat}(h:Rem m seen rem)(hs:∀j,j<m→j∈seen):rem=[]:=by
 cases rem with
 | nil=>rfl
 | cons a r =>
  obtain ⟨h1,h2⟩:=(h.mem a).1 List.mem_cons_self;exact absurd (hs a h1) h2
theorem mkv_at{K V:Type}{kp:K→PV}{vp:V→PV}{E:List (K×V)}{j:Nat}{k v:PV} (h:(E.map (mkv kp vp))[j]?=some (k,v)):∃x,E[j]?=some x∧k=kp x.1∧v=vp x.2:=by
 rw [List.getElem?_map] at h;cases hx:E[j]? with
 | none=>rw [hx] at h; cases h
 | some x =>
  rw [hx] at h;simp only [Option.map_some,Option.some.injEq,mkv,Prod.mk.injEq] at h;exact ⟨x,rfl,h.1.symm,h.2.symm⟩
theorem at_mkv{K V:Type}{kp:K→PV}{vp:V→PV}{E:List (K×V)}{j:Nat}{x:K×V}(h:E[j]?=some x):(E.map (mkv kp vp))[j]?=some (kp x.1,vp x.2):=by rw [List.getElem?_map,h]; rfl
theorem T.oneNext{P:Program}{C:Cfg}{n base:Nat}{st:Tr×Hp}(hC:Qad P C){c:Code}{x:Operand}{t tb i o m:Nat}{seen:List Nat}{kvs:List (PV×PV)}{Q:Ex×Tr×Hp→Prop}(hs:isSeq c=true)(hq:isNextQ (cL c)=some (x,t,tb))(ht:Nat.blt t n=true)(hx:val st.1 x = .it i)(hi:hget st.2 i=some (.iter o m seen))(ho:hget st.2 o=some (.map kvs))(hm:kvs.length=m)
  (h0:(∀j,j<m→j∈seen)→T P n base (Qk 1 c) (nextS n st t tb [] false st.2) Q)
  (h1:∀j k v,j<m→j∉seen→kvs[j]?=some (k,v)→T P n base (Qk 1 c) (nextS n st t tb [.pl k,.pl v] true (hset st.2 i (some (.iter o m (seen++[j]))))) Q):T P n base c st Q :=
 T.one hs (T.next hC hq ht hx hi ho hm (Q:=ThenQ P n base (Qk 1 c) Q) (fun h=>ThenQ.norm (h0 h)) fun j k v a b d=>ThenQ.norm (h1 j k v a b d)) fun r hr=>by
  obtain ⟨ex,s⟩:=r;cases ex<;>exact hr

def toB(l:List Int):List UInt8:=l.map fun n=>UInt8.ofNat n.toNat
theorem bytes_map:∀l:List Int,bytesOf (l.map (cInt .u8))=some (toB l)
 | []=>rfl
 | n::l=>by
  have:=bytes_map l;simp only [List.map_cons,cInt,bytesOf,toB] at this ⊢;rw [this]; rfl
def ofB(s:ByteArray):List Int:=s.data.toList.map fun c=>(c.toNat:Int)
def sOf(l:List Int):ByteArray:=⟨(toB l).toArray⟩
theorem ofB_cv{s:ByteArray} : (s.data.toList.map fun c=>([.int .u8 (c.toNat:Int)]:List PV))=(ofB s).map (cInt .u8):=by
 unfold ofB;rw [List.map_map]; rfl

def cutB(a b:Int)(n:Nat):Bool:=decide (0≤a∧a≤b∧b≤(n:Int))
section
variable {α:Type} {c:α→List PV} {xs:List α} {lo hi:Int} {n:Nat}
theorem Qbn{c:α→List PV}{n:Nat}(h:cutB lo hi n=true):hi=((hi.toNat:Nat):Int):=by have:=of_decide_eq_true h; omega
theorem cut_hl_2(h:cutB lo hi n=true):lo=((lo.toNat:Nat):Int):=by have:=of_decide_eq_true h; omega
theorem cut_hl_3(h:cutB lo hi n=true):lo.toNat≤hi.toNat:=by have:=of_decide_eq_true h; omega
theorem Qbk(h:cutB lo hi xs.length=true):hi.toNat≤(xs.map c).length:=by rw [List.length_map]; have:=of_decide_eq_true h; omega
theorem Qba{c:α→List PV}{n:Nat}(h:cutB 0 hi n=true):hi=((hi.toNat:Nat):Int):=by have:=of_decide_eq_true h; omega
theorem cut_hn_2(h:cutB 0 hi n=true):(0:Nat)=0:=rfl
theorem cut_hn_3(h:cutB 0 hi n=true):0≤hi.toNat:=by have:=of_decide_eq_true h; omega
theorem Qaz(h:cutB 0 hi xs.length=true):hi.toNat≤(xs.map c).length:=by rw [List.length_map]; have:=of_decide_eq_true h; omega
theorem Qco(h:cutB lo (xs.length:Int) xs.length=true):xs.length=(xs.map c).length:=by rw [List.length_map]
theorem cut_nl_2(h:cutB lo (n:Int) n=true):lo=((lo.toNat:Nat):Int):=by have:=of_decide_eq_true h; omega
theorem cut_nl_3(h:cutB lo (n:Int) n=true):lo.toNat≤n:=by have:=of_decide_eq_true h; omega
theorem Qcm(h:cutB lo (xs.length:Int) xs.length=true):xs.length≤(xs.map c).length:=by rw [List.length_map]; have:=of_decide_eq_true h; omega
end
theorem last_app{seen:List Nat}{j:Nat} : (seen++[j]).getLast?=some j:=by simp

abbrev strC(s:ByteArray):List (List PV):=s.data.toList.map fun c=>([.int .u8 (c.toNat:Int)]:List PV)
theorem ne_str{s:ByteArray}(h:(ofB s).isEmpty=false):strC s≠[]:=by
 show (s.data.toList.map fun c=>([.int .u8 (c.toNat:Int)]:List PV))≠[];rw [ofB_cv]; exact Qcf h
theorem nil_str{s:ByteArray}(h:(ofB s).isEmpty=true):strC s=[]:=by
 show (s.data.toList.map fun c=>([.int .u8 (c.toNat:Int)]:List PV))=[];rw [ofB_cv]; exact Qbc h
theorem len_str{s:ByteArray} : ∀c∈strC s,c.length=1:=by
 show ∀c∈(s.data.toList.map fun c=>([.int .u8 (c.toNat:Int)]:List PV)),c.length=1;rw [ofB_cv]; exact Qbd (fun _=>rfl)
theorem lenB{s:ByteArray} : (strC s).length=(ofB s).length:=by simp [ofB]
theorem fit_str2{α:Type}{xs:List α}{c:α→List PV}{s:ByteArray}{b:Nat}{te:TI} (h:fit (xs.length+(ofB s).length) b=true) (hb:te.bytes=b):Qbg ((xs.map c).length+(strC s).length) te=true:=by rw [lenB,List.length_map]; exact fit_of h hb
theorem app_str{xs:List Int}{s:ByteArray} : xs.map (cInt .u8)++strC s=(xs++ofB s).map (cInt .u8):=by
 show _++(s.data.toList.map fun c=>([.int .u8 (c.toNat:Int)]:List PV))=_;rw [ofB_cv,List.map_append]
end Go.Proofs.Ytbgjlpdeoljmiaa
