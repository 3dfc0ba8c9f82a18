/- Several texts in one. No condition. -/
import Derived.Test.YtinabbgjignkbaaTV
import Derived.Shelf.SlSortCmp.NoneTotal
import Derived.Test.YtinabbgjignkbaaTM
namespace Go.Proofs.Ytinabbgjignkbaa
set_option linter.unusedSimpArgs false
set_option linter.unusedVariables false
open Go.RowKit Go.Sort
def flat1:PV→Bool
 | .int _ _=>true
 | .bool _=>true
 | .str _=>true
 | _=>false
def valP:PV→Value
 | .int k n=>.int k n
 | .bool b=>.bool b
 | .str s=>.string s
 | _=>.nilIface
section
variable {P:Program} {w w':World} {X Y:Nat→Prop} {φ:Phi} {H:Hp}
theorem PR_flat{p:PV}(h:flat1 p=true){v:Value} : PR w Y p v↔v=valP p:=by
 cases p<;>simp [flat1] at h<;>simp [PR,valP]
theorem oneP_flat{p:PV}(h:flat1 p=true):oneP p=true:=by cases p<;>simp [flat1] at h<;>rfl
theorem oneC_flat(p:PV):(valP p).oneCell'=true:=by cases p<;>rfl
theorem PRL_flat:∀{cs:List PV},(∀p∈cs,flat1 p=true)→PRL w Y cs (cs.map valP)
 | [],_=>by simp only [PRL,List.map_nil]
 | c::cs,h=>by
  simp only [PRL,List.map_cons];exact ⟨valP c,cs.map valP,rfl,oneP_flat (h c (by simp)),(PR_flat (h c (by simp))).2 rfl,PRL_flat fun p hp=>h p (by simp [hp])⟩
theorem grown(ev:Ev Qck w Qck w'):∃q os,w'=grow (w.drewN q) os:=by
 refine ⟨w'.drawn-w.drawn,w'.heap.extract w.heap.size w'.heap.size,?_⟩;have hh:w'.heap=w.heap++w'.heap.extract w.heap.size w'.heap.size:=by
  apply Array.ext_getElem?
  intro k;rcases Nat.lt_or_ge k w.heap.size with hk | hk
  ·rw [Array.getElem?_append_left hk,ev.heap k hk (noBlk k)]
  ·rw [Array.getElem?_append_right hk];rcases Nat.lt_or_ge k w'.heap.size with hk2 | hk2
   ·rw [Array.getElem?_extract_of_lt (by have:=ev.size; omega)];have e:w.heap.size+(k-w.heap.size)=k:=by omega
    simp only [e];exact Array.getElem?_eq_getElem hk2
   ·rw [Array.getElem?_eq_none hk2,Array.getElem?_eq_none (by simp; omega)]
 have h1:=ev.os; have h2:=ev.tape; have h3:=ev.output.1; have h4:=ev.output.2;obtain ⟨hp,tp,dr,os,out⟩:=w';obtain ⟨hp',tp',dr',os',out'⟩:=w;simp only at h1 h2 h3 h4 hh;subst h1 h2 h3;simp only [grow,World.drewN,World.mk.injEq,true_and,and_true];exact ⟨hh,by omega⟩
theorem cmp_lays{S:Type} [Inhabited S] {cells:S→List PV} {g n:Nat} (hf:∀x,∀p∈cells x,flat1 p=true) {cf:S→S→Int}
  (hc:∀x y,Qr P false g [.pl (.agg (cells x)),.pl (.agg (cells y))] [] (.pl (.int .i64 (cf x y))) []) (b p m:Nat) (hT:∀x∈tabL,x.1≠b∧∃t fr,w.heap[x.1]?=some (.cells x.2.toArray t fr)):CmpLays P g #[] (fun x=>(cells x).map valP) n cf b p m w:=by
 intro m' os dk _ x y;have hW:TabOK Qck (sortWorldK (fun x=>(cells x).map valP) n w b p m' dk os):=fun x hx=>by
  obtain ⟨h1,t,fr,h2⟩:=hT x hx;refine ⟨noBlk _,t,fr,?_⟩;have hheap:(sortWorldK (fun x=>(cells x).map valP) n w b p m' dk os).heap=(w.heap.modify b (onCells (putCells id p (flatK (fun x=>(cells x).map valP) n dk))))++os:=rfl;have hlt:x.1<w.heap.size:=(Array.getElem?_eq_some_iff.1 h2).1;rw [hheap,Array.getElem?_append_left (by simpa using hlt),Array.getElem?_modify,if_neg (Ne.symm h1)];exact h2
 generalize sortWorldK (fun x=>(cells x).map valP) n w b p m' dk os=W at hW ⊢;have hE:HR (fun _=>False) Qck [] W:=HR.empty ⟨fun b hb=>hb.elim,hW⟩;have:=(hc x y).2.2 (fun _=>rfl) (fun _=>False) Qck W [.agg ((cells x).map valP).toArray,.agg ((cells y).map valP).toArray] hE
  (by simp only [VRT,VR]; exact ⟨_,_,rfl,by simp only [PR]; exact ⟨_,rfl,PRL_flat (hf x)⟩,_,_,rfl,by simp only [PR]; exact ⟨_,rfl,PRL_flat (hf y)⟩,rfl⟩)
 refine this.mono fun e w' hr=>?_;obtain ⟨r,hm,v,φ',he,hv,hH',ev,_,_⟩:=hr;rw [List.mem_singleton] at hm; subst hm;have hφ:φ'=Qck:=funext fun o=>hH'.fresh o (Nat.zero_le _);subst hφ;simp only [VR,PR] at hv; subst hv;exact ⟨he,grown ev⟩
end
noncomputable def sortL{S:Type} [Inhabited S] (cf:S→S→Int) (xs:List S):List S:=(pdq (ltOf cf) xs.toArray 0 xs.length (Go.Lib.bitLen xs.length) true true).toList
theorem sortL_perm{S:Type} [Inhabited S] {cf:S→S→Int} (hO:SWO (ltOf cf)) (xs:List S):(sortL cf xs).Perm xs:=by
 have h:=(pdq_sorts (ltOf cf) hO xs.toArray 0 xs.length (Go.Lib.bitLen xs.length) true true (Nat.zero_le _) (by simp) (Or.inl rfl)).1;obtain ⟨h1,_,h3⟩:=h;unfold sortL;generalize pdq (ltOf cf) xs.toArray 0 xs.length (Go.Lib.bitLen xs.length) true true=d at h1 h3;simp only [List.size_toArray] at h1;have e1:d.extract 0 xs.length=d:=by rw [←h1]; exact Array.extract_size
 have e2:xs.toArray.extract 0 xs.length=xs.toArray:=by simp
 rw [e1,e2] at h3;exact h3
theorem sortL_len{S:Type} [Inhabited S] {cf:S→S→Int} (hO:SWO (ltOf cf)) (xs:List S):(sortL cf xs).length=xs.length:=(sortL_perm hO xs).length_eq
theorem sortL_sorted{S:Type} [Inhabited S] {cf:S→S→Int} (hO:SWO (ltOf cf)) (xs:List S):(sortL cf xs).Pairwise fun x y=>ltOf cf y x=false:=by
 have h:=(pdq_sorts (ltOf cf) hO xs.toArray 0 xs.length (Go.Lib.bitLen xs.length) true true (Nat.zero_le _) (by simp) (Or.inl rfl)).2;have hl:=sortL_len hO xs;unfold sortL at hl ⊢;generalize pdq (ltOf cf) xs.toArray 0 xs.length (Go.Lib.bitLen xs.length) true true=d at h hl;simp only [Array.length_toList] at hl;rw [List.pairwise_iff_getElem];intro i j hi hj hij;simp only [Array.length_toList] at hi hj;have:=h i j (Nat.zero_le _) hij (by omega);rw [getElem!_pos d j hj,getElem!_pos d i hi] at this;simpa using this
section
variable {P:Program} {w:World} {X Y:Nat→Prop} {φ:Phi} {H:Hp} {ρ:Go.Shelf.Ren}
theorem holds_of{S:Type} [Inhabited S] {cells:S→List PV} {n b p:Nat} (hn:∀x,(cells x).length=n) (hf:∀x,∀q∈cells x,flat1 q=true) {xs:List S} (h:PRE w Y b n p (xs.map cells)) {cs:Array Value} {t:TypeId}
  (hb:w.heap[b]?=some (.cells cs t (0,0))):HoldsK (fun x=>(cells x).map valP) n w b p xs.toArray:=by
 intro j hj;rw [size_flatK,List.size_toArray] at hj;have hn0:0<n:=Nat.pos_of_ne_zero fun h0=>by subst h0; simp at hj
 have hi:j / n<xs.length:=Nat.div_lt_of_lt_mul (by rw [Nat.mul_comm]; exact hj);have hm:j % n<n:=Nat.mod_lt _ hn0;refine ⟨?_,by simp [World.frozen?,hb]⟩;rw [get_flatK _ _ _ _ (by rw [List.size_toArray]; exact hj)];have he:(xs.map cells)[j / n]?=some (cells xs[j / n]):=by rw [List.getElem?_map,List.getElem?_eq_getElem hi]; rfl
 obtain ⟨_,hc⟩:=h.at he;have hlt:j % n<(cells xs[j / n]).length:=by rw [hn]; exact hm
 obtain ⟨v,hv,_,hpv⟩:=hc.at (List.getElem?_eq_getElem hlt);rw [(PR_flat (hf _ _ (List.getElem_mem hlt))).1 hpv] at hv;rw [show p+j / n*n+j % n=p+j from by have:=Nat.div_add_mod' j n; omega] at hv;rw [hv,getElem!_pos xs.toArray (j / n) (by simpa using hi)];have e2:j % n<((cells xs[j / n]).map valP).length:=by simpa using hlt
 simp only [List.getElem_toArray,id];rw [getElem!_pos ((cells xs[j / n]).map valP) (j % n) e2,List.getElem_map]
theorem holds_pre{S:Type} [Inhabited S] {cells:S→List PV} {n b p:Nat} (hn:∀x,(cells x).length=n) (hf:∀x,∀q∈cells x,flat1 q=true) {d:Array S} (h:HoldsK (fun x=>(cells x).map valP) n w b p d):PRE w Y b n p (d.toList.map cells):=by
 refine PRE.of fun i e hi=>?_;rw [List.getElem?_map] at hi;obtain ⟨x,hx,rfl⟩:=Option.map_eq_some_iff.1 hi;obtain ⟨hi',hx'⟩:=List.getElem?_eq_some_iff.1 hx;simp only [Array.length_toList] at hi';refine ⟨hn x,PRC.of_vals (PRL_flat (hf x)) fun j v hj=>?_⟩;obtain ⟨hj',hv⟩:=List.getElem?_eq_some_iff.1 hj;have hjn:j<n:=by rw [←hn x]; simpa using hj'
 have:=(HoldsK.cell h hi' hjn).1;rw [this,getElem!_pos d i hi'];have ex:d[i]=x:=by simpa using hx'
 rw [ex,getElem!_pos ((cells x).map valP) j hj',hv]
theorem hget_one{x y:Ob}{o:Nat}{z:Ob}(h:hget [some x] o=some z):hget [some y] o=some y∧o=0∧z=x:=by
 match o,h with
 | 0,h=>exact ⟨rfl,rfl,(Option.some.inj h).symm⟩
 | k+1,h=>simp [hget] at h
theorem sort_callS{S:Type} [Inhabited S] {cells:S→List PV} {K g n:Nat} (L:SlLaysF0.n6 P ρ) (hK:ρ.f 6=K) (aE:∀w,(isAgg (ρ.t 24)).run P w = .ok true w) (zE:∀w,(Go.sizeOf (ρ.t 24)).run P w = .ok n w)
  (eK:Enters P K) (hn:∀x,(cells x).length=n) (hf:∀x,∀q∈cells x,flat1 q=true) (cf:S→S→Int) (hO:SWO (ltOf cf))
  (hc:∀x y,Qr P false g [.pl (.agg (cells x)),.pl (.agg (cells y))] [] (.pl (.int .i64 (cf x y))) []) (xs:List S) (hlen:xs.length<4611686018427387904) :
  Qr P true K [.own 0,.pl (.fn g)] [some (.row false n (xs.map cells))] (.tup []) [some (.row false n ((sortL cf xs).map cells))]:=by
 refine ⟨eK,⟨(fun (h:true=false)=>by cases h),fun _ X φ w vs hH hvs=>?_⟩⟩;simp only [VRT] at hvs;obtain ⟨v0,_,rfl,hv0,v1,_,rfl,hv1,rfl⟩:=hvs;simp only [VR,PR] at hv0 hv1;subst hv1;obtain ⟨z,l,hl,hob⟩:=hH.ob 0 _ rfl;simp only [OR] at hob;obtain ⟨rfl,h1,h2,h3,h4,h5⟩:=hob;have hv0:=hv0.2.2 _ _ hl;subst hv0;rw [List.length_map] at h1;have fin:∀{w':World} {xs':List S},xs'.length=xs.length→Ev φ w φ w'→HR X φ [some (.row false n (xs'.map cells))] w'→Ret X φ [some (.row false n (xs.map cells))] w [(.tup [],[some (.row false n (xs'.map cells))])] (.returned (.tuple #[])) w':=fun hl ev hr =>
  ⟨_,List.mem_singleton.2 rfl,.tuple #[],φ,rfl,by simp only [VR]; exact ⟨[],rfl,by simp only [VRT]⟩,hr,ev,Nat.le_refl _,fun _ _ h=>h⟩
 rcases h5 with ⟨hA,hc0⟩|⟨b,p,t,cs,hA,hb,hp,hpre,_⟩
 ·have hx0:xs=[]:=List.length_eq_zero_iff.1 (by omega);subst hx0;have:=AnyF.slices_SortFunc_none L (l.addr 0) l.c (.func (.func g) #[] #[]) w;rw [hK] at this;rw [h1];refine this.mono fun e w' ⟨he,hw⟩=>?_;subst he hw;have es:sortL cf ([]:List S)=[]:=List.length_eq_zero_iff.1 (by rw [sortL_len hO]; rfl);rw [es];exact fin rfl (Ev.refl φ _) hH
 ·have hpre':=hpre;have hblk:b<w.heap.size:=(Array.getElem?_eq_some_iff.1 hb).1;have hHo:=holds_of hn hf hpre hb;have hsz:xs.toArray.size<4611686018427387904:=by rw [List.size_toArray]; exact hlen
  have:=AnyQ.slices_SortFunc_eq L n aE zE (fun x=>(cells x).map valP) (fun x=>by rw [List.length_map,hn]) (fun x v hv=>by obtain ⟨q,_,rfl⟩:=List.mem_map.1 hv; exact oneC_flat q) cf hO g #[] b p l.c xs.toArray w ((hc default default).1) (cmp_lays hf hc b p _ fun x hx=>⟨fun e=>(hH.xlt.tab x hx).1 (e ▸ ⟨0,l,p,hl,hA⟩),(hH.xlt.tab x hx).2⟩) hHo hblk hsz;rw [hK] at this;have ea:l.addr 0=some ⟨b,p,none⟩:=by unfold Loc.addr; rw [hA]; simp
  rw [ea,h1];rw [List.size_toArray] at this;refine this.mono fun e w' ⟨he,m,os,hw⟩=>?_;have hsz':(pdq (ltOf cf) xs.toArray 0 xs.length (Go.Lib.bitLen xs.length) true true).size=xs.length:=by
   have:=sortL_len hO xs;unfold sortL at this;simpa using this
  have hHo':=holdsK_sortWorldK_c (fun x=>(cells x).map valP) n w b p xs.toArray (pdq (ltOf cf) xs.toArray 0 xs.length (Go.Lib.bitLen xs.length) true true) m os hHo hblk (by rw [hsz',List.size_toArray]);rw [←hw] at hHo';have hpre2:=holds_pre (Y:=YOf X φ) hn hf hHo';have hheap:w'.heap=(w.heap.modify b (onCells (putCells id p (flatK (fun x=>(cells x).map valP) n (pdq (ltOf cf) xs.toArray 0 xs.length (Go.Lib.bitLen xs.length) true true)))))++os:=by rw [hw]; rfl
  have hgb:w'.heap[b]?=some (.cells (putCells id p (flatK (fun x=>(cells x).map valP) n (pdq (ltOf cf) xs.toArray 0 xs.length (Go.Lib.bitLen xs.length) true true)) cs) t (0,0)):=by
   rw [hheap,Array.getElem?_append_left (by simpa using hblk),Array.getElem?_modify,if_pos rfl,hb];rfl
  have hgo:∀k,k<w.heap.size→k≠b→w'.heap[k]?=w.heap[k]?:=fun k hk hne=>by
   rw [hheap,Array.getElem?_append_left (by simpa using hk),Array.getElem?_modify,if_neg (Ne.symm hne)]
  have ev:Ev φ w φ w':=by
   refine ⟨by rw [hw]; rfl,by rw [hw]; rfl,⟨by rw [hw]; rfl,by rw [hw]; exact Nat.le_add_right _ _⟩,by rw [hheap]; simp,fun k hk hnk=>hgo k hk fun e=>hnk ⟨0,l,p,hl,by rw [e]; exact hA⟩,fun _ _ h=>h,fun _ _=>.inl rfl⟩
  subst he;refine fin (sortL_len hO xs) ev ?_;refine hH.next ev (fun o ho=>hH.fresh o ho) (fun o z' l' ho=>?_) (fun o x hx=>?_) (fun o l' b' p' ho hA'=>.inl ho)
  ·obtain ⟨x,hx⟩:=hH.live o z' l' ho;exact ⟨_,(hget_one (y:=.row false n ((sortL cf xs).map cells)) hx).1⟩
  ·obtain ⟨rfl,rfl⟩:=(hget_one (y:=.row false n (xs.map cells)) hx).2;refine .inr ⟨false,l,hl,?_⟩;simp only [OR];refine ⟨trivial,by rw [List.length_map,sortL_len hO]; exact h1,h2,h3,h4,.inr ⟨b,p,t,_,hA,hgb,?_,hpre2,fun h=>by cases h⟩⟩;rw [show (putCells id p (flatK (fun x=>(cells x).map valP) n (pdq (ltOf cf) xs.toArray 0 xs.length (Go.Lib.bitLen xs.length) true true)) cs).size=cs.size by simp [putCells]];exact hp
end
end Go.Proofs.Ytinabbgjignkbaa
namespace Go.Proofs.Ytinabbgjignkbaa
set_option linter.unusedVariables false
open Go.Sort
theorem nblt{a b:Nat} : Nat.blt a b=true↔a<b:=by rw [Nat.blt_eq]
theorem nblt_f{a b:Nat} : Nat.blt a b=false↔b≤a:=by
 cases h:Nat.blt a b with
 | true=>simp only [reduceCtorEq,false_iff]; have:=nblt.1 h; omega
 | false =>
  simp only [true_iff];rcases Nat.lt_or_ge a b with k | k
  ·rw [nblt.2 k] at h; cases h
  ·exact k
theorem blt_irrefl:∀a:List UInt8,Qaq a a=false
 | []=>rfl
 | x::a=>by simp [Qaq,blt_irrefl a,nblt_f]
theorem blt_trans:∀{a b c:List UInt8},Qaq a b=true→Qaq b c=true→Qaq a c=true
 | a,[],c,h,_=>by cases a<;>simp [Qaq] at h
 | a,_::_,[],_,k=>by simp [Qaq] at k
 | [],_::_,_::_,_,_=>by simp [Qaq]
 | x::a,y::b,z::c,h,k=>by
  simp only [Qaq,Bool.or_eq_true,Bool.and_eq_true,nblt,Nat.beq_eq] at h k ⊢;rcases h with h | ⟨h1,h2⟩<;>rcases k with k | ⟨k1,k2⟩
  ·exact .inl (by omega)
  ·exact .inl (by omega)
  ·exact .inl (by omega)
  ·exact .inr ⟨by omega,blt_trans h2 k2⟩
theorem blt_total:∀{a b:List UInt8},Qaq a b=false→Qaq b a=false→a=b
 | [],[],_,_=>rfl
 | [],_::_,h,_=>by simp [Qaq] at h
 | _::_,[],_,k=>by simp [Qaq] at k
 | x::a,y::b,h,k=>by
  simp only [Qaq,Bool.or_eq_false_iff,nblt_f] at h k;have e:x=y:=UInt8.toNat_inj.1 (by omega);subst e;have hb:Nat.beq x.toNat x.toNat=true:=Nat.beq_refl _;rw [hb,Bool.true_and] at h k;rw [blt_total h.2 k.2]
theorem slt_irrefl(a:ByteArray):slt a a=false:=blt_irrefl _
theorem slt_trans{a b c:ByteArray}(h:slt a b=true)(k:slt b c=true):slt a c=true:=blt_trans h k
theorem slt_total{a b:ByteArray}(h:slt a b=false)(k:slt b a=false):a=b:=by
 have:=blt_total h k;cases a; cases b
 congr 1
 exact Array.ext' this
theorem Qbr(a:ByteArray):seq a a=true:=by simp [seq]
theorem seq_iff{a b:ByteArray} : seq a b=true↔a=b:=⟨fun h=>bytes_eq (by simpa [seq] using h),fun h=>by subst h; exact Qbr a⟩
def cmpB(a b:ByteArray):Int:=bif slt a b then -1 else bif slt a b||seq a b then 0 else 1
theorem cmpB_neg{a b:ByteArray} : cmpB a b<0↔slt a b=true:=by
 unfold cmpB;cases slt a b<;>cases seq a b<;>simp
theorem Qcd{a b:ByteArray} : cmpB a b=0↔a=b:=by
 unfold cmpB;cases h:slt a b with
 | true=>simp; intro e; subst e; rw [slt_irrefl] at h; cases h
 | false=>cases k:seq a b with
  | true=>simp; exact seq_iff.1 k
  | false=>simp; intro e; subst e; rw [Qbr] at k; cases k

end Go.Proofs.Ytinabbgjignkbaa
namespace Go.Proofs.Ytinabbgjignkbaa
set_option linter.unusedVariables false
set_option linter.unusedSimpArgs false
open Go.Sort
section
variable {α:Type} (lt:α→α→Bool)
structure SWo:Prop where
 irr:∀x,lt x x=false
 tr:∀{x y z},lt x y=true→lt y z=true→lt x z=true
 nt:∀{x y z},lt x y=false→lt y z=false→lt x z=false
def eqv(x y:α):Bool:=!(lt x y)&&!(lt y x)
abbrev Sd(l:List α):Prop:=l.Pairwise fun a b=>lt b a=false
def Cl(a b:List α):Prop:=b.Perm a∧∀k,b.filter (eqv lt k)=a.filter (eqv lt k)
def insS(x:α):List α→List α
 | []=>[x]
 | y::ys=>bif lt y x then y::insS x ys else x::y::ys
def sortS:List α→List α
 | []=>[]
 | x::xs=>insS lt x (sortS xs)
variable {lt}
theorem SWo.asym(h:SWo lt){x y:α}(k:lt x y=true):lt y x=false:=by
 cases e:lt y x with
 | false=>rfl
 | true=>have:=h.tr k e; rw [h.irr] at this; cases this
theorem eqv_iff{x y:α} : eqv lt x y=true↔lt x y=false∧lt y x=false:=by
 unfold eqv; cases lt x y<;>cases lt y x<;>simp
theorem eqv_refl(h:SWo lt)(x:α):eqv lt x x=true:=eqv_iff.2 ⟨h.irr x,h.irr x⟩
theorem eqv_symm{x y:α}(e:eqv lt x y=true):eqv lt y x=true:=eqv_iff.2 ⟨(eqv_iff.1 e).2,(eqv_iff.1 e).1⟩
theorem eqv_trans(h:SWo lt){x y z:α}(e:eqv lt x y=true)(f:eqv lt y z=true):eqv lt x z=true :=
 eqv_iff.2 ⟨h.nt (eqv_iff.1 e).1 (eqv_iff.1 f).1,h.nt (eqv_iff.1 f).2 (eqv_iff.1 e).2⟩
theorem Cl.refl(a:List α):Cl lt a a:=⟨List.Perm.refl _,fun _=>rfl⟩
theorem Cl.trans{a b c:List α}(h:Cl lt a b)(k:Cl lt b c):Cl lt a c:=⟨k.1.trans h.1,fun x=>(k.2 x).trans (h.2 x)⟩
theorem Cl.app{a b c d:List α}(h:Cl lt a b)(k:Cl lt c d):Cl lt (a++c) (b++d):=⟨h.1.append k.1,fun x=>by rw [List.filter_append,List.filter_append,h.2,k.2]⟩
theorem Cl.mem{a b:List α}(h:Cl lt a b){x:α} : x∈b↔x∈a:=h.1.mem_iff
theorem Cl.len{a b:List α}(h:Cl lt a b):b.length=a.length:=h.1.length_eq
theorem Cl.swap(o:SWo lt){u v:List α}(h:∀x∈u,∀y∈v,lt y x=true):Cl lt (u++v) (v++u):=by
 refine ⟨List.perm_append_comm,fun k=>?_⟩;rw [List.filter_append,List.filter_append]
 by_cases hu:∃x∈u,eqv lt k x=true
 ·obtain ⟨x,hx,ex⟩:=hu;have:v.filter (eqv lt k)=[]:=List.filter_eq_nil_iff.2 fun y hy e=>by
   have:=(eqv_iff.1 (eqv_trans o (eqv_symm e) ex)).1;rw [h x hx y hy] at this; cases this
  rw [this]; simp
 ·have:u.filter (eqv lt k)=[]:=List.filter_eq_nil_iff.2 fun x hx e=>hu ⟨x,hx,e⟩;rw [this]; simp
theorem sorted_one(o:SWo lt):∀{a b:List α},Sd lt a→Sd lt b→Cl lt a b→a=b
 | [],[],_,_,_=>rfl
 | [],y::b,_,_,h=>absurd h.1.length_eq (by simp)
 | x::a,[],_,_,h=>absurd h.1.length_eq (by simp)
 | x::a,y::b,sa,sb,h=>by
  have sa':=List.pairwise_cons.1 sa;have sb':=List.pairwise_cons.1 sb;have hxy:lt x y=false:=by
   rcases List.mem_cons.1 (h.1.mem_iff.2 List.mem_cons_self:x∈y::b) with e | e
   ·rw [e]; exact o.irr y
   ·exact sb'.1 x e
  have hyx:lt y x=false:=by
   rcases List.mem_cons.1 (h.1.mem_iff.1 List.mem_cons_self:y∈x::a) with e | e
   ·rw [e]; exact o.irr x
   ·exact sa'.1 y e
  have e1:=h.2 x;rw [List.filter_cons,List.filter_cons,eqv_iff.2 ⟨hxy,hyx⟩,eqv_refl o x] at e1;simp only [if_true] at e1;obtain ⟨e2,e3⟩:=List.cons.inj e1;subst e2
  congr 1
  refine sorted_one o sa'.2 sb'.2 ⟨(List.perm_cons _).1 h.1,fun k=>?_⟩;have:=h.2 k;rw [List.filter_cons,List.filter_cons] at this;cases e:eqv lt k y with
  | true=>rw [e] at this; simpa using this
  | false=>rw [e] at this; simpa using this
theorem insS_perm(x:α):∀l:List α,(insS lt x l).Perm (x::l)
 | []=>List.Perm.refl _
 | y::ys=>by
  rw [insS];cases lt y x with
  | true=>exact ((insS_perm x ys).cons y).trans (List.Perm.swap x y ys)
  | false=>exact List.Perm.refl _
theorem insS_cl(o:SWo lt)(x:α):∀l:List α,Cl lt (x::l) (insS lt x l)
 | []=>Cl.refl _
 | y::ys=>by
  refine ⟨insS_perm x _,fun k=>?_⟩;rw [insS];cases h:lt y x with
  | false=>rfl
  | true =>
   have ih:=(insS_cl o x ys).2 k;rw [cond_true,List.filter_cons,ih,List.filter_cons,List.filter_cons,List.filter_cons];cases e:eqv lt k x with
   | false=>cases eqv lt k y<;>simp
   | true =>
    have:eqv lt k y=false:=by
     cases f:eqv lt k y with
     | false=>rfl
     | true =>
      have:=(eqv_iff.1 (eqv_trans o (eqv_symm f) e)).1;rw [h] at this; cases this
    rw [this]; simp
theorem insS_sd(o:SWo lt)(x:α):∀{l:List α},Sd lt l→Sd lt (insS lt x l)
 | [],_=>by simp [insS]
 | y::ys,h=>by
  have h':=List.pairwise_cons.1 h;rw [insS];cases k:lt y x with
  | true =>
   refine List.pairwise_cons.2 ⟨fun z hz=>?_,insS_sd o x h'.2⟩;rcases List.mem_cons.1 ((insS_perm x ys).mem_iff.1 hz) with rfl | hz
   ·exact o.asym k
   ·exact h'.1 z hz
  | false =>
   refine List.pairwise_cons.2 ⟨fun z hz=>?_,h⟩;rcases List.mem_cons.1 hz with rfl | hz
   ·exact k
   ·exact o.nt (h'.1 z hz) k
theorem sortS_sd(o:SWo lt):∀l:List α,Sd lt (sortS lt l)
 | []=>List.Pairwise.nil
 | x::xs=>insS_sd o x (sortS_sd o xs)
theorem sortS_cl(o:SWo lt):∀l:List α,Cl lt l (sortS lt l)
 | []=>Cl.refl _
 | x::xs=>((Cl.refl [x]).app (sortS_cl o xs)).trans (insS_cl o x _)
theorem sortS_of(o:SWo lt){a b:List α}(h:Sd lt b)(k:Cl lt a b):b=sortS lt a :=
 sorted_one o h (sortS_sd o a) ⟨(sortS_cl o a).1.trans k.1.symm,fun x=>((sortS_cl o a).2 x).trans (k.2 x).symm⟩
theorem Sd.app{a b:List α}(ha:Sd lt a)(hb:Sd lt b)(h:∀x∈a,∀y∈b,lt y x=false):Sd lt (a++b):=List.pairwise_append.2 ⟨ha,hb,h⟩

inductive Bl (lt:α→α→Bool) (s:Nat):List α→Prop
 | last {x:List α} (h:Sd lt x) (hl:x.length≤s):Bl lt s x
 | more {x r:List α} (h:Sd lt x) (hl:x.length=s) (hr:Bl lt s r):Bl lt s (x++r)
end
end Go.Proofs.Ytinabbgjignkbaa
namespace Go.Proofs.Ytinabbgjignkbaa
set_option linter.unusedVariables false
set_option linter.unusedSimpArgs false
open Go.RowKit
theorem wrIn{n:Int}(h1:-9223372036854775808≤n)(h2:n≤9223372036854775807):wr64 n=n:=w64 rfl h1 h2
section
variable {α:Type}
theorem at_len{l:List α}{k:Nat}{x:α}{a b:List α}(h:l=a++x::b)(hk:k=a.length):at? l (k:Int)=some x:=by
 subst hk; rw [at_nat,h]; simp
theorem set_len{l:List α}{k:Nat}{x y:α}{a b:List α}(h:l=a++x::b)(hk:k=a.length):l.set k y=a++y::b:=by
 subst hk; rw [h,List.set_append_right _ _ (Nat.le_refl _)]; simp
theorem at_in{l:List α}{k:Nat}(h:k<l.length):at? l (k:Int)=some l[k]:=by
 rw [at_nat]; exact List.getElem?_eq_getElem h
end
end Go.Proofs.Ytinabbgjignkbaa
namespace Go.Proofs.Ytinabbgjignkbaa
set_option linter.unusedVariables false
set_option linter.unusedSimpArgs false
open Go.RowKit
theorem wrL(a b:Int):wr64 (wr64 a+b)=wr64 (a+b):=by
 show IntKind.i64.wrap (IntKind.i64.wrap a+b)=IntKind.i64.wrap (a+b);simp only [IntKind.wrap_i64]; omega
theorem Qao{n b:Nat}(h:n≤1000000)(hb:b≤1000000):fit n b=true:=by
 unfold fit;have:n*b≤1000000*1000000:=Nat.mul_le_mul h hb;simp only [Bool.and_eq_true,Nat.ble_eq];omega
theorem ltNot(a b:Int):decide (a<b) = !decide (b≤a):=by
 by_cases h:a<b
 ·rw [decide_eq_true h,decide_eq_false (by omega)]; rfl
 ·rw [decide_eq_false h,decide_eq_true (by omega)]; rfl
theorem seqF{a b:ByteArray}(h:a≠b):seq a b=false:=by
 cases k:seq a b with
 | false=>rfl
 | true=>exact absurd (seq_iff.1 k) h
theorem sltNe{a b:ByteArray}(h:slt a b=true):a≠b:=fun e=>by rw [e,slt_irrefl] at h; cases h
theorem sizeList(s:ByteArray):s.size=s.data.toList.length:=rfl
theorem wrSucc{k:Nat}(h:k≤1000000):wr64 ((k:Int)+1)=((k+1:Nat):Int):=by rw [wrIn (by omega) (by omega)]; omega
theorem dropAt{α:Type}{l:List α}{k:Nat}{x:α}{r:List α}(h:l.drop k=x::r):at? l (k:Int)=some x∧k<l.length∧l.drop (k+1)=r:=by
 obtain ⟨h1,h2,h3⟩:=Qbk h;exact ⟨by rw [at_nat]; exact h1,h2,h3⟩
theorem maxSmall{n:Nat}(h:n≤1000000):n≤maxLen:=Nat.le_trans h (by unfold maxLen; decide)
theorem Qad{n:Nat}(h:n≤1000000):n<FUEL:=lt_FUEL (maxSmall h)

def ltrI(c:Int):Bool:=(decide (97≤c)&&decide (c≤122))||(decide (65≤c)&&decide (c≤90))
def othI(c:Int):Bool:=(decide (48≤c)&&decide (c≤57))||(decide (c=95)||decide (c=45))
def chB(b:UInt8):Bool:=ltrI b.toNat||othI b.toNat
def isNm(l:List UInt8):Bool:=match l with
 | []=>false
 | b::r=>decide (l.length≤40)&&(ltrI b.toNat&&r.all chB)
def nmB(s:ByteArray):Bool:=isNm s.data.toList


def cmpI(a b:Int):Int:=bif decide (a<b) then -1 else bif decide (b<a) then 1 else 0
theorem cmpI_neg{a b:Int} : cmpI a b<0↔a<b:=by
 unfold cmpI
 by_cases h:a<b
 ·rw [decide_eq_true h]; simp [h]
 ·rw [decide_eq_false h];cases decide (b<a)<;>simp [h]
theorem cmpI_zero{a b:Int} : cmpI a b=0↔a=b:=by
 unfold cmpI
 by_cases h:a<b
 ·rw [decide_eq_true h]; simp; omega
 ·rw [decide_eq_false h]
  by_cases k:b<a
  ·rw [decide_eq_true k]; simp; omega
  ·rw [decide_eq_false k]; simp; omega
structure Cmp {α:Type} (c:α→α→Int):Prop where
 rf:∀x,c x x=0
 tr:∀{x y z},c x y<0→c y z<0→c x z<0
 zl:∀{x y z},c x y=0→c x z=c y z
 zr:∀{x y z},c x y=0→c z x=c z y
 tot:∀{x y},¬c x y<0→¬c y x<0→c x y=0
theorem Cmp.int{α:Type}(f:α→Int):Cmp fun x y=>cmpI (f x) (f y) where
 rf x:=cmpI_zero.2 rfl
 tr h k:=by rw [cmpI_neg] at *; omega
 zl h:=by rw [cmpI_zero] at h; rw [h]
 zr h:=by rw [cmpI_zero] at h; rw [h]
 tot h k:=by rw [cmpI_neg] at *; rw [cmpI_zero]; omega
theorem Cmp.str{α:Type}(f:α→ByteArray):Cmp fun x y=>cmpB (f x) (f y) where
 rf x:=Qcd.2 rfl
 tr h k:=by rw [cmpB_neg] at *; exact slt_trans h k
 zl h:=by rw [Qcd] at h; rw [h]
 zr h:=by rw [Qcd] at h; rw [h]
 tot h k:=by
  rw [cmpB_neg,Bool.not_eq_true] at *;exact Qcd.2 (slt_total h k)
def cmpOr(a b:Int):Int:=bif decide (a=0) then b else a
theorem Cmp.lex{α:Type}{c d:α→α→Int}(hc:Cmp c)(hd:Cmp d):Cmp fun x y=>cmpOr (c x y) (d x y) where
 rf x:=by unfold cmpOr; rw [hc.rf]; simp [hd.rf]
 tr {x y z} h k:=by
  unfold cmpOr at *
  by_cases h1:c x y=0
  ·rw [decide_eq_true h1,cond_true] at h;rw [hc.zl h1]
   by_cases h2:c y z=0
   ·rw [decide_eq_true h2,cond_true] at k ⊢;exact hd.tr h k
   ·rw [decide_eq_false h2,cond_false] at k ⊢;exact k
  ·rw [decide_eq_false h1,cond_false] at h
   by_cases h2:c y z=0
   ·rw [←hc.zr h2,decide_eq_false h1,cond_false]; exact h
   ·rw [decide_eq_false h2,cond_false] at k;have:=hc.tr h k;rw [decide_eq_false (by omega),cond_false]; exact this
 zl {x y z} h:=by
  unfold cmpOr at *
  by_cases h1:c x y=0
  ·rw [decide_eq_true h1,cond_true] at h;rw [hc.zl h1,hd.zl h]
  ·rw [decide_eq_false h1,cond_false] at h;exact absurd h h1
 zr {x y z} h:=by
  unfold cmpOr at *
  by_cases h1:c x y=0
  ·rw [decide_eq_true h1,cond_true] at h;rw [hc.zr h1,hd.zr h]
  ·rw [decide_eq_false h1,cond_false] at h;exact absurd h h1
 tot {x y} h k:=by
  unfold cmpOr at *
  by_cases h1:c x y=0
  ·have h2:c y x=0:=by have:=hc.zl (z:=x) h1; rw [hc.rf] at this; exact this.symm
   rw [decide_eq_true h1,cond_true] at h ⊢;rw [decide_eq_true h2,cond_true] at k;exact hd.tot h k
  ·by_cases h2:c y x=0
   ·have:=hc.zl (z:=y) h2; rw [hc.rf] at this; exact absurd this.symm h1
   ·rw [decide_eq_false h1,cond_false] at h ⊢;rw [decide_eq_false h2,cond_false] at k;exact absurd (hc.tot h k) h1
theorem Cmp.swo{α:Type}{c:α→α→Int}(h:Cmp c):SWo fun x y=>decide (c x y<0) where
 irr x:=by rw [h.rf]; rfl
 tr h1 h2:=by rw [decide_eq_true_eq] at *; exact h.tr h1 h2
 nt {x y z} h1 h2:=by
  rw [decide_eq_false_iff_not] at *;intro h3
  by_cases k1:c y x<0
  ·exact h2 (h.tr k1 h3)
  ·have e:=h.tot h1 k1;exact h2 (by rw [←h.zl e]; exact h3)
theorem Cmp.eqv{α:Type}{c:α→α→Int}(h:Cmp c){x y:α} : eqv (fun x y=>decide (c x y<0)) x y=true↔c x y=0:=by
 rw [eqv_iff,decide_eq_false_iff_not,decide_eq_false_iff_not]
 constructor
 ·rintro ⟨h1,h2⟩; exact h.tot h1 h2
 ·intro e;have e2:c y x=0:=by have:=h.zl (z:=x) e; rw [h.rf] at this; exact this.symm
  rw [e,e2]; simp
theorem Cmp.SWO{α:Type}{c:α→α→Int}(h:Cmp c):Go.Sort.SWO (ltOf c) where
 irrefl x:=h.swo.irr x
 trans x y z a b:=h.swo.tr a b
 ntrans x y z a b:=h.swo.nt a b
end Go.Proofs.Ytinabbgjignkbaa
