/- Several texts in one. No condition. -/
import Derived.Test.YtinabbgjignkbaaTG
import Derived.Deep.Slices
import Derived.Deep.Fields
import Derived.ProofKit
import Derived.ChangeSame
import Derived.IntWalk
namespace Go.Proofs.Ytinabbgjignkbaa
set_option linter.unusedSimpArgs false
set_option linter.unusedVariables false
open Go.RowKit Go.ChangeShapes Go.WideShapes Go.Deep
theorem wr64_of{n:Int}(h1:-9223372036854775808≤n)(h2:n≤9223372036854775807):wr64 n=n:=Go.IntWalk.i64_in n ⟨h1,h2⟩
theorem Qbk{α:Type}{xs rest:List α}{x:α}{k:Nat}(h:xs.drop k=x::rest):xs[k]?=some x∧k<xs.length∧xs.drop (k+1)=rest:=by
 have hk:k<xs.length:=by
  rcases Nat.lt_or_ge k xs.length with h1 | h1
  ·exact h1
  ·rw [List.drop_eq_nil_of_le h1] at h; cases h
 rw [List.drop_eq_getElem_cons hk] at h;simp only [List.cons.injEq] at h;exact ⟨by rw [List.getElem?_eq_getElem hk,h.1],hk,h.2⟩
theorem Qbj{α:Type}{xs:List α}{k:Nat}(h:xs.drop k=[]):xs.length≤k:=List.drop_eq_nil_iff.1 h
theorem lt_FUEL{n:Nat}(h:n≤maxLen):n<FUEL:=by
 have:maxLen<FUEL:=by unfold maxLen FUEL; decide
 omega

def WTF(T:Nat→Option TI)(rec:Nat→List PV→Prop):List (Nat×Nat)→List PV→Prop
 | [],ps=>ps=[]
 | (t,_)::fs,ps=>∃a b ti,ps=a++b∧T t=some ti∧a.length=ti.size∧rec t a∧WTF T rec fs b
def WT(T:Nat→Option TI):Nat→Nat→List PV→Prop
 | 0=>fun _ _=>False
 | d+1=>fun t ps=>match T t with
  | none=>False
  | some ti=>match ti.k with
   | .int k=>∃n,ps=[.int k n]∧(Lit.int k n).wf=true
   | .bool=>∃b,ps=[.bool b]
   | .str=>∃s,ps=[.str s]∧s.size≤maxLen
   | .sl e=>∃te es,T e=some te∧ps=[.sl .any te.size es]∧es.length≤maxLen∧∀c∈es,c.length=te.size∧WT T d e c
   | .struct fs=>WTF T (WT T d) fs ps
   | _=>False
def contig(T:Nat→Option TI)(ok:Nat→Bool):List (Nat×Nat)→Nat→Nat→Bool
 | [],o,n=>Nat.beq o n
 | (t,off)::fs,o,n=>match T t with | some ti=>Nat.beq off o&&ok t&&contig T ok fs (o+ti.size) n | none=>false
def niceB(T:Nat→Option TI):Nat→Nat→Bool
 | 0=>fun _=>false
 | d+1=>fun t=>match T t with
  | none=>false
  | some ti=>match ti.k with
   | .int _ | .bool | .str=>Nat.beq ti.size 1
   | .sl e=>Nat.beq ti.size 1&&niceB T d e&&(match T e with | some te=>Nat.blt 0 te.size | none=>false)
   | .struct fs=>contig T (niceB T d) fs 0 ti.size
   | _=>false
section
variable {P:Program} {C:Cfg} {H:Type} {enc:TypeId×Value→H} {w:World} {base:Nat} {spare:Nat→Bool} {held:Bool} {Y:Nat→Prop}
theorem wt_int{d t:Nat}{ti:TI}{k:IntKind}{ps:List PV}(ht:C.ty t=some ti)(hk:ti.k = .int k)(h:WT C.ty (d+1) t ps):∃n,ps=[.int k n]∧(Lit.int k n).wf=true:=by simpa only [WT,ht,hk] using h
theorem wt_bool{d t:Nat}{ti:TI}{ps:List PV}(ht:C.ty t=some ti)(hk:ti.k = .bool)(h:WT C.ty (d+1) t ps):∃b,ps=[.bool b]:=by simpa only [WT,ht,hk] using h
theorem wt_str{d t:Nat}{ti:TI}{ps:List PV}(ht:C.ty t=some ti)(hk:ti.k = .str)(h:WT C.ty (d+1) t ps):∃s,ps=[.str s]∧s.size≤maxLen:=by simpa only [WT,ht,hk] using h
theorem wt_sl{d t e:Nat}{ti:TI}{ps:List PV}(ht:C.ty t=some ti)(hk:ti.k = .sl e)(h:WT C.ty (d+1) t ps):∃te es,C.ty e=some te∧ps=[.sl .any te.size es]∧es.length≤maxLen∧∀c∈es,c.length=te.size∧WT C.ty d e c:=by simpa only [WT,ht,hk] using h
theorem wt_struct{d t:Nat}{ti:TI}{fs:List (Nat×Nat)}{ps:List PV}(ht:C.ty t=some ti)(hk:ti.k = .struct fs)(h:WT C.ty (d+1) t ps):WTF C.ty (WT C.ty d) fs ps:=by simpa only [WT,ht,hk] using h
theorem add_at(b o j:Nat):(⟨b,o,none⟩:Addr).add j=⟨b,o+j,none⟩:=by
 unfold Addr.add
 split
 ·rename_i h; subst h; rfl
 ·rfl
theorem prc_of:∀{ps:List PV} {cs:List Value} {b o:Nat},PRL w Y ps cs→(∀j v,cs[j]?=some v→w.cell? ⟨b,o+j,none⟩=some v)→PRC w Y b o ps
 | [],_,_,_,_,_=>by simp only [PRC]
 | p::ps,cs,b,o,h,hc=>by
  simp only [PRL] at h;obtain ⟨v,r,rfl,h1,h2,h3⟩:=h;simp only [PRC];refine ⟨⟨v,by simpa using hc 0 v rfl,h1,h2⟩,prc_of h3 fun j u hu=>?_⟩;have:=hc (j+1) u (by simpa using hu)
  rwa [show o+1+j=o+(j+1) from by omega]
theorem pre_of{sz b:Nat}{K:List PV→Prop} : ∀(len o:Nat),(∀i,i<len→∃ps,ps.length=sz∧PRC w Y b (o+i*sz) ps∧K ps)→∃es:List (List PV),es.length=len∧PRE w Y b sz o es∧∀c∈es,c.length=sz∧K c
 | 0,o,_=>⟨[],rfl,by simp only [PRE],fun _ h=>by cases h⟩
 | len+1,o,h=>by
  obtain ⟨p,h1,h2,h3⟩:=h 0 (by omega);obtain ⟨es,k1,k2,k3⟩:=pre_of len (o+sz) fun i hi=>by
   obtain ⟨q,q1,q2,q3⟩:=h (i+1) (by omega);refine ⟨q,q1,?_,q3⟩
   rwa [show o+sz+i*sz=o+(i+1)*sz from by rw [Nat.succ_mul]; omega]
  refine ⟨p::es,by simp [k1],?_,fun c hc=>?_⟩
  ·simp only [PRE];exact ⟨h1,by simpa using h2,k2⟩
  ·rcases List.mem_cons.1 hc with rfl | hc
   ·exact ⟨h1,h3⟩
   ·exact k3 c hc
theorem cells_of{t:Nat}{ti:TI}(h:Qbu P t ti=true):P.cellsOf t=ti.size:=by
 obtain ⟨i,z,hi,hs,_⟩:=Qbe h;simp [Program.cellsOf,hi,hs]
theorem open_wt(hC:Qac P C):∀(d t:Nat){fuel:Nat}{cs:List Value}{x:DataW H×List MemPlace},niceB C.ty d t=true→DataW.trod enc P w base spare held fuel t cs=some x→∃ps,PRL w (fun _=>False) ps cs∧WT C.ty d t ps
 | 0,t,fuel,cs,x,hn,_=>by simp [niceB] at hn
 | d+1,t,fuel,cs,x,hn,h=>by
  simp only [niceB] at hn
  split at hn
  ·cases hn
  ·rename_i ti hti;have hT:=hC.ty t ti hti
   split at hn
   ·rename_i k hk;obtain ⟨n,rfl,_,hw⟩:=DataW.trod_int (und_int hT hk) h;exact ⟨[.int k n],by simp only [PRL,PR]; exact ⟨_,_,rfl,rfl,rfl,rfl⟩,by simp only [WT,hti,hk]; exact ⟨n,rfl,hw⟩⟩
   ·rename_i hk;obtain ⟨b,rfl,_⟩:=DataW.trod_bool (und_bool hT hk) h;exact ⟨[.bool b],by simp only [PRL,PR]; exact ⟨_,_,rfl,rfl,rfl,rfl⟩,by simp only [WT,hti,hk]; exact ⟨b,rfl⟩⟩
   ·rename_i hk;obtain ⟨s,rfl,_,hs⟩:=DataW.trod_string (und_str hT hk) h;exact ⟨[.str s],by simp only [PRL,PR]; exact ⟨_,_,rfl,rfl,rfl,rfl⟩,by simp only [WT,hti,hk]; exact ⟨s,rfl,hs⟩⟩
   ·rename_i e hk
    split at hn
    ·rename_i te hte;simp only [Bool.and_eq_true,Nat.blt_eq] at hn;obtain ⟨⟨_,hne⟩,hpos⟩:=hn;have hsz:=cells_of (hC.ty e te hte);rcases open_slice (und_sl hT hk) h with ⟨rfl,_⟩|⟨a,len,cap,m,n,D,Pl,rfl,hb,hl,hm,hmm,_,hi⟩
     ·exact ⟨[.sl .any te.size []],by simp only [PRL,PR,flOk]; exact ⟨_,_,rfl,rfl,⟨none,0,rfl,Nat.le_refl _,Nat.zero_le _,trivial,.inl rfl⟩,rfl⟩,by simp only [WT,hti,hk]; exact ⟨te,[],hte,rfl,Nat.zero_le _,fun _ h=>by cases h⟩⟩
     ·rw [hsz] at hi
      by_cases h0:len=0
      ·subst h0;exact ⟨[.sl .any te.size []],by simp only [PRL,PR,flOk]; exact ⟨_,_,rfl,rfl,⟨some a,cap,rfl,Nat.zero_le _,hm,trivial,.inl rfl⟩,rfl⟩,by simp only [WT,hti,hk]; exact ⟨te,[],hte,rfl,Nat.zero_le _,fun _ h=>by cases h⟩⟩
      ·have hel:∀i,i<len→∃cs',cs'.length=te.size∧(∀j v,cs'[j]?=some v→w.cell? ((a.add (i*te.size)).add j)=some v)∧∃ps,PRL w (fun _=>False) ps cs'∧WT C.ty d e ps:=fun i hil=>by
        have him:i<m:=by rw [hmm]; split<;>omega
        obtain ⟨cs',hc,ht'⟩:=hi i him;obtain ⟨_,hcl,hat⟩:=World.cells?_some hc;obtain ⟨ps,q1,q2⟩:=open_wt hC d e hne ht';refine ⟨cs',hcl,fun j v hv=>?_,ps,q1,q2⟩;have hj:j<cs'.length:=(List.getElem?_eq_some_iff.1 hv).1;rw [hat j (by omega),hv]
       obtain ⟨cs0,hl0,hc0,_⟩:=hel 0 (by omega);obtain ⟨v0,hv0⟩:∃v,cs0[0]?=some v:=⟨_,List.getElem?_eq_getElem (by omega)⟩;have hcell:=hc0 0 v0 hv0;have ha0:(a.add (0*te.size)).add 0=a:=by simp [Addr.add]
       rw [ha0] at hcell;obtain ⟨g,o,s⟩:=a;have hs:s=none:=World.cell?_spot hcell;subst hs;obtain ⟨es,k1,k2,k3⟩:=pre_of (w:=w) (Y:=fun _=>False) (sz:=te.size) (b:=g) (K:=WT C.ty d e) len o fun i hil=>by
        obtain ⟨cs',q1,q2,ps,q3,q4⟩:=hel i hil;refine ⟨ps,by rw [←q3.length]; exact q1,prc_of q3 fun j v hv=>?_,q4⟩;have:=q2 j v hv
        rwa [add_at,add_at] at this
       refine ⟨[.sl .any te.size es],?_,?_⟩
       ·simp only [PRL,PR,flOk];exact ⟨_,_,rfl,rfl,⟨some ⟨g,o,none⟩,cap,by rw [k1],by omega,hm,trivial,.inr ⟨g,o,rfl,not_false,World.block_lt_of_cell? w _ hcell,k2⟩⟩,rfl⟩
       ·simp only [WT,hti,hk];exact ⟨te,es,hte,rfl,by omega,k3⟩
    ·simp at hn
   ·rename_i fs hk;obtain ⟨gs,hu,hgs⟩:=Qby hT hk;obtain ⟨xs,n,_,_,hlen,hxl,hf⟩:=DataW.trod_struct hu h;rw [cells_of hT] at hlen;have key:∀(r:List (Nat×Nat))(j o:Nat),(∀i q,r[i]?=some q→fs[j+i]?=some q)→o≤cs.length→contig C.ty (niceB C.ty d) r o ti.size=true→∃ps,PRL w (fun _=>False) ps (cs.drop o)∧WTF C.ty (WT C.ty d) r ps:=by
     intro r
     induction r with
     | nil =>
      intro j o _ _ hc;simp only [contig] at hc;have:=Nat.eq_of_beq_eq_true hc;exact ⟨[],by rw [List.drop_eq_nil_of_le (by omega)]; simp only [PRL],by simp only [WTF]⟩
     | cons q r ih =>
      obtain ⟨ft,off⟩:=q;intro j o hr ho hc;simp only [contig] at hc
      split at hc
      ·rename_i tf htf;simp only [Bool.and_eq_true] at hc;obtain ⟨⟨hoff,hnf⟩,hcr⟩:=hc;obtain rfl:=Nat.eq_of_beq_eq_true hoff;obtain ⟨g,hg,rfl,hgo,_⟩:=fieldsOK_at hgs (i:=j) (by simpa using hr 0 _ rfl);have h1:=hf j g (by simpa using hg);rw [hgo,cells_of (hC.ty _ tf htf)] at h1;have hjx:j<xs.length:=by rw [hxl]; simpa using (List.getElem?_eq_some_iff.1 hg).1
       rw [List.getElem?_eq_getElem hjx] at h1;obtain ⟨a,q1,q2⟩:=open_wt hC d g.type hnf h1;have tot:∀(r:List (Nat×Nat))(o n:Nat),contig C.ty (niceB C.ty d) r o n=true→o≤n:=by
        intro r
        induction r with
        | nil=>intro o n h; simp only [contig] at h; have:=Nat.eq_of_beq_eq_true h; omega
        | cons q r ih =>
         intro o n h;obtain ⟨_,_⟩:=q;simp only [contig] at h
         split at h
         ·simp only [Bool.and_eq_true] at h;have:=ih _ _ h.2; omega
         ·cases h
       have hle:=tot r _ _ hcr;obtain ⟨b,k1,k2⟩:=ih (j+1) (off+tf.size) (fun i q hq=>by have:=hr (i+1) q (by simpa using hq); rwa [show j+1+i=j+(i+1) from by omega]) (by omega) hcr;refine ⟨a++b,?_,?_⟩
       ·have:=q1.append k1
        rwa [←List.drop_drop,List.take_append_drop] at this
       ·simp only [WTF];exact ⟨a,b,tf,rfl,htf,by rw [←q1.length]; simp; omega,q2,k2⟩
      ·cases hc
    obtain ⟨ps,q1,q2⟩:=key fs 0 0 (fun i q h=>by simpa using h) (Nat.zero_le _) hn;exact ⟨ps,by simpa using q1,by simp only [WT,hti,hk]; exact q2⟩
   ·cases hn
theorem list_of{α:Type}{K:List PV→Prop}{c:α→List PV}{ok:α→Prop}(h:∀ps,K ps→∃x,ps=c x∧ok x):∀es:List (List PV),(∀q∈es,K q)→∃xs:List α,es=xs.map c∧∀x∈xs,ok x
 | [],_=>⟨[],rfl,fun _ h=>by cases h⟩
 | q::es,hq=>by
  obtain ⟨x,rfl,hx⟩:=h q (hq q List.mem_cons_self);obtain ⟨xs,rfl,hxs⟩:=list_of h es fun q h=>hq q (List.mem_cons_of_mem _ h);exact ⟨x::xs,rfl,fun y hy=>by
   rcases List.mem_cons.1 hy with rfl | hy
   ·exact hx
   ·exact hxs y hy⟩
def okInt(k:IntKind)(n:Int):Prop:=(Lit.int k n).wf=true
def WV(T:Nat→Option TI)(d t:Nat)(p:PV):Prop:=match T t with
 | some ti=>match ti.k.row with
  | true=>∃cs,p = .agg cs∧WT T d t cs
  | false=>oneP p=true∧WT T d t [p]
 | none=>False
theorem wv_row{d t:Nat}{ti:TI}{p:PV}(ht:C.ty t=some ti)(hk:ti.k.row=true)(h:WV C.ty d t p):∃cs,p = .agg cs∧WT C.ty d t cs:=by simpa only [WV,ht,hk] using h
theorem wv_one{d t:Nat}{ti:TI}{p:PV}(ht:C.ty t=some ti)(hk:ti.k.row=false)(h:WV C.ty d t p):oneP p=true∧WT C.ty d t [p]:=by simpa only [WV,ht,hk] using h
theorem open_val(hC:Qac P C){d t b0:Nat}{r:Reach}{v:Value}{D:DataW H}{ps:List MemPlace}(hn:niceB C.ty d t=true)(hval:Value.okWide P w r b0 t v)(h:DataW.Trod enc P w base spare held t v D ps):∃p,PR w (fun _=>False) p v∧WV C.ty d t p:=by
 obtain ⟨fuel,h⟩:=h;obtain ⟨qs,h1,h2⟩:=open_wt hC d t hn h;cases d with
 | zero=>simp [niceB] at hn
 | succ d =>
  have hn0:=hn;simp only [niceB] at hn
  split at hn
  ·cases hn
  ·rename_i ti hti;have hT:=hC.ty t ti hti;have one:∀{u:TypeDesc},ti.k.row=false→qs.length=1→(∀a,v≠.agg a)→∃p,PR w (fun _=>False) p v∧WV C.ty (d+1) t p:=fun {u} hr hl hv=>by
    have hc:v.cells.toList=[v]:=by cases v<;>first | rfl | exact absurd rfl (hv _)
    rw [hc] at h1
    match qs,hl with
    | [p],_ =>
     simp only [PRL] at h1;obtain ⟨v',r',e,ho,hp,_⟩:=h1;simp only [List.cons.injEq] at e;obtain ⟨rfl,_⟩:=e;exact ⟨p,hp,by simp only [WV,hti,hr]; exact ⟨ho,h2⟩⟩
   split at hn
   ·rename_i k hk;obtain ⟨n,rfl,_⟩:=wt_int hti hk h2;obtain ⟨m,rfl⟩:=okWide_int (und_int hT hk) hval;exact one (u:=.bool) (by rw [hk]; rfl) rfl (fun a h=>by cases h)
   ·rename_i hk;obtain ⟨n,rfl⟩:=wt_bool hti hk h2;obtain ⟨m,rfl⟩:=okWide_bool (und_bool hT hk) hval;exact one (u:=.bool) (by rw [hk]; rfl) rfl (fun a h=>by cases h)
   ·rename_i hk;obtain ⟨n,rfl,_⟩:=wt_str hti hk h2;obtain ⟨m,rfl⟩:=okWide_string (und_str hT hk) hval;exact one (u:=.bool) (by rw [hk]; rfl) rfl (fun a h=>by cases h)
   ·rename_i e hk;obtain ⟨te,es,_,rfl,_⟩:=wt_sl hti hk h2;obtain ⟨a,l,c,rfl⟩:=okWide_slice (und_sl hT hk) hval;exact one (u:=.bool) (by rw [hk]; rfl) rfl (fun a h=>by cases h)
   ·rename_i fs hk;obtain ⟨gs,hu,_⟩:=Qby hT hk;obtain ⟨cs,rfl,_⟩:=okWide_struct hu hval;refine ⟨.agg qs,by simp only [PR]; exact ⟨cs.toList,by simp,h1⟩,?_⟩;have hr:ti.k.row=true:=by rw [hk]; rfl
    simp only [WV,hti,hr];exact ⟨qs,rfl,h2⟩
   ·cases hn
theorem law_call{k:Nat}{ps:List PV}{vs:List Value}{b:Bool} (h:Qr P false k (ps.map .pl) [] (.pl (.bool b)) []) (hv:VRT w (fun _=>False) Qck (ps.map .pl) vs) (ht:TabOK Qck w:=by exact fun x hx=>by cases (show x∈([]:List (Nat×List Value)) from hx)):Calls P k vs.toArray w fun e w'=>e = .returned (.bool b)∧Below w.heap.size w w':=by
 obtain ⟨_,_,hc⟩:=h;have hY:YOf (fun _=>False) Qck=fun _=>False:=funext fun b=>propext ⟨fun h=>h.elim id fun h=>(noBlk b h).elim,fun h=>h.elim⟩;refine (hc (fun _=>rfl) (fun _=>False) Qck w vs (HR.empty ⟨fun _ h=>h.elim,ht⟩) (by rw [hY]; exact hv)).mono fun e w' hr=>?_;obtain ⟨r,hm,v',φ',he,h1,h2,h3,_⟩:=hr;rw [List.mem_singleton] at hm; subst hm;simp only [VR,PR] at h1;subst h1;exact ⟨he,h3.os,h3.tape,h3.output.1,h3.size,fun b hb=>h3.heap b hb (noBlk b)⟩
theorem vrt_nil:VRT w (fun _=>False) Qck [] []:=by simp only [VRT]
theorem vrt_cons{p:PV}{v:Value}{ps:List AV}{vs:List Value}(h:PR w (fun _=>False) p v)(t:VRT w (fun _=>False) Qck ps vs):VRT w (fun _=>False) Qck (.pl p::ps) (v::vs):=by
 simp only [VRT];exact ⟨v,vs,rfl,by simp only [VR]; exact h,t⟩
end
end Go.Proofs.Ytinabbgjignkbaa
namespace Go.Proofs.Ytinabbgjignkbaa
set_option linter.unusedSimpArgs false
set_option linter.unusedVariables false
open Go.RowKit
def pInt(k:IntKind)(n:Int):PV:=.int k n
def Qm(b:Bool):PV:=.bool b



abbrev shrK(k:IntKind)(a b:Int):Int:=a.fdiv (2 ^ (min b.toNat k.bits))
abbrev mnI(a b:Int):Int:=bif decide (b<a) then b else a
abbrev mxI(a b:Int):Int:=bif decide (a<b) then b else a
end Go.Proofs.Ytinabbgjignkbaa
namespace Go.Proofs.Ytinabbgjignkbaa
set_option linter.unusedSimpArgs false
set_option linter.unusedVariables false
open Go.RowKit
end Go.Proofs.Ytinabbgjignkbaa
namespace Go.Proofs.Ytinabbgjignkbaa
set_option linter.unusedSimpArgs false
set_option linter.unusedVariables false
open Go.RowKit


def cutB(a b:Int)(n:Nat):Bool:=decide (0≤a∧a≤b∧b≤(n:Int))
section
variable {α:Type} {c:α→List PV} {xs:List α} {lo hi:Int} {n:Nat}
theorem cut_hn_1_map{c:α→List PV}{n:Nat}(h:cutB 0 hi n=true):hi=((hi.toNat:Nat):Int):=by have:=of_decide_eq_true h; omega
theorem cut_hn_2(h:cutB 0 hi n=true):(0:Nat)=0:=rfl
theorem cut_hn_3(h:cutB 0 hi n=true):0≤hi.toNat:=by have:=of_decide_eq_true h; omega
theorem cut_hn_4_map(h:cutB 0 hi xs.length=true):hi.toNat≤(xs.map c).length:=by rw [List.length_map]; have:=of_decide_eq_true h; omega
theorem cut_nl_2(h:cutB lo (n:Int) n=true):lo=((lo.toNat:Nat):Int):=by have:=of_decide_eq_true h; omega
theorem cut_nl_3(h:cutB lo (n:Int) n=true):lo.toNat≤n:=by have:=of_decide_eq_true h; omega
theorem cut_nl_4(h:cutB lo (n:Int) n=true):n≤n:=by have:=of_decide_eq_true h; omega
end

end Go.Proofs.Ytinabbgjignkbaa
