/- The clean machine and the model: when a plain value, a machine's value, own memory stand for what lies in the model's world. No condition. -/
import Derived.Test.YtbgjlpdeoljmiaaZA
import Derived.Below
import Derived.Deep.MidRow
namespace Go.Proofs.Ytbgjlpdeoljmiaa
set_option linter.unusedSimpArgs false
set_option linter.unusedVariables false
open Go.RowKit

def flOk:Fl→Option Addr→Nat→Prop
 | .nil,A,c=>A=none∧c=0
 | .zc,_,c=>c=0
 | .any,_,_=>True
mutual
def PR(w:World)(Y:Nat→Prop):PV→Value→Prop
 | .int k n,v=>v = .int k n
 | .bool b,v=>v = .bool b
 | .str s,v=>v = .string s
 | .agg cs,v=>∃vs:List Value,v = .agg vs.toArray∧PRL w Y cs vs
 | .sl f sz es,v=>∃A c,v = .slice A es.length c∧es.length≤c∧c≤maxLen∧flOk f A c∧(es.length=0∨∃b o,A=some ⟨b,o,none⟩∧¬Y b∧b<w.heap.size∧PRE w Y b sz o es)
 | .fn f,v=>v = .func (.func f) #[] #[]
 | .nilf,v=>v = .nilFunc
 | .nilp,v=>v = .pointer none
 | .nilm,v=>v = .map none
 | .nili,v=>v = .nilIface
 | .ifc t x,v=>∃y,v = .iface t y∧PR w Y x y
def PRL(w:World)(Y:Nat→Prop):List PV→List Value→Prop
 | [],vs=>vs=[]
 | c::cs,vs=>∃v r,vs=v::r∧oneP c=true∧PR w Y c v∧PRL w Y cs r
def PRC(w:World)(Y:Nat→Prop)(b:Nat):Nat→List PV→Prop
 | _,[]=>True
 | o,c::cs=>(∃v,w.cell? ⟨b,o,none⟩=some v∧oneP c=true∧PR w Y c v)∧PRC w Y b (o+1) cs
def PRE(w:World)(Y:Nat→Prop)(b sz:Nat):Nat→List (List PV)→Prop
 | _,[]=>True
 | o,e::es=>e.length=sz∧PRC w Y b o e∧PRE w Y b sz (o+sz) es
end

def noD:Nat→Prop:=fun _=>False
structure Loc where
 A:Option (Nat×Nat)
 n:Nat
 c:Nat
 sz:Nat
 D:Nat→Prop
def Loc.has(l:Loc)(b p:Nat):Prop:=l.A=some (b,p)∨l.D b
theorem Loc.has_no{A:Option (Nat×Nat)}{n c sz b p:Nat}(h:(⟨A,n,c,sz,noD⟩:Loc).has b p):A=some (b,p):=h.elim id fun h=>h.elim
inductive Pl where
 | fresh | dead | at (z:Bool) (l:Loc)
abbrev Phi:=Nat→Pl
def Loc.addr(l:Loc)(i:Nat):Option Addr:=l.A.map fun a=>⟨a.1,a.2+i*l.sz,none⟩
def blkOf(φ:Phi)(b:Nat):Prop:=∃o l p,φ o = .at false l∧l.has b p
mutual
def VR(w:World)(Y:Nat→Prop)(φ:Phi):AV→Value→Prop
 | .pl p,v=>PR w Y p v
 | .un,_=>True
 | .agg cs,v=>∃vs:List Value,v = .agg vs.toArray∧VRL w Y φ cs vs
 | .tup cs,v=>∃vs:List Value,v = .tuple vs.toArray∧VRT w Y φ cs vs
 | .clo f cs,v=>∃vs:List Value,v = .func (.func f) #[] vs.toArray∧VRT w Y φ cs vs
 | .own o,v=>v.oneCell'=true∧φ o≠.fresh∧∀z l,φ o = .at z l→v = .slice (l.addr 0) l.n l.c
 | .vw o off len,v=>v.oneCell'=true∧φ o≠.fresh∧∀z l,φ o = .at z l→∃A c,v = .slice A len c∧off+len≤l.n∧c+off=l.c∧(0<c→A=l.addr off∧A≠none)
 | .bp o i,v=>v.oneCell'=true∧φ o≠.fresh∧∀z l,φ o = .at z l→∃b,l.A=some (b,0)∧v = .pointer (some ⟨b,i,none⟩)
 | .ep o i j,v=>v.oneCell'=true∧φ o≠.fresh∧∀z l,φ o = .at z l→∃b p,l.A=some (b,p)∧v = .pointer (some ⟨b,p+i*l.sz+j,none⟩)
 | .ip cs i,v=>∃b o,v = .pointer (some ⟨b,o+i,none⟩)∧¬Y b∧b<w.heap.size∧PRC w Y b o cs
 | .mp o,v=>v.oneCell'=true∧φ o≠.fresh∧∀z l,φ o = .at z l→∃b,l.A=some (b,0)∧v = .map (some b)
 | .it o,v=>v.oneCell'=true∧φ o≠.fresh∧∀z l,φ o = .at z l→∃b,l.A=some (b,0)∧v = .pointer (some ⟨b,0,none⟩)
 | .yl o,v=>v.oneCell'=true∧φ o≠.fresh∧∀z l,φ o = .at z l→∃b,l.A=some (b,0)∧v = .func (.yield b) #[] #[]
def VRL(w:World)(Y:Nat→Prop)(φ:Phi):List AV→List Value→Prop
 | [],vs=>vs=[]
 | c::cs,vs=>∃v r,vs=v::r∧oneA c=true∧VR w Y φ c v∧VRL w Y φ cs r
def VRT(w:World)(Y:Nat→Prop)(φ:Phi):List AV→List Value→Prop
 | [],vs=>vs=[]
 | c::cs,vs=>∃v r,vs=v::r∧VR w Y φ c v∧VRT w Y φ cs r
end

def MR(w:World)(Y:Nat→Prop):Nat→List (PV×PV)→List MapEntry→Prop
 | _,[],es=>es=[]
 | i,(k,x)::r,es=>∃e es',es=e::es'∧e.born=i∧PR w Y k e.key∧PR w Y x e.val∧MR w Y (i+1) r es'
def OR(w:World)(Y:Nat→Prop)(φ:Phi)(z:Bool)(l:Loc):Ob→Prop
 | .box t cs=>z=false∧∃b vs,l.A=some (b,0)∧w.heap[b]?=some (.cells vs.toArray t (0,0))∧VRL w Y φ cs vs
 | .abox t cs es=>z=false∧∃b vs,l.A=some (b,0)∧w.heap[b]?=some (.cells vs.toArray t (0,0))∧VRL w Y φ (cs++es.map .pl) vs
 | .row fz sz es => z = fz ∧ l.n = es.length ∧ l.sz = sz ∧ l.n ≤ l.c ∧ l.c ≤ maxLen ∧
  ((l.A=none∧l.c=0)∨∃b p t cs,l.A=some (b,p)∧w.heap[b]?=some (.cells cs t (0,0))∧p+l.c*sz≤cs.size∧PRE w Y b sz p es∧(z=true→¬Y b))
 | .drow sz es => z = false ∧ (∀ k, l.D k → ∃ t cs, w.heap[k]? = some (.cells cs t (0, 0))) ∧ l.n = es.length ∧ l.sz = sz ∧ l.n ≤ l.c ∧ l.c ≤ maxLen ∧
  ((l.A=none∧l.c=0)∨∃b p t cs,l.A=some (b,p)∧w.heap[b]?=some (.cells cs t (0,0))∧p+l.c*sz≤cs.size∧PRE w (fun k=>¬l.D k) b sz p es∧¬l.D b)
 | .brow e s=>z=false∧l.sz=1∧∃b cs,l.A=some (b,0)∧w.heap[b]?=some (.cells cs e (0,0))∧l.n=s.size∧l.n≤l.c∧l.c≤maxLen∧cs.size=l.c∧cs.toList.take s.size=s.data.toList.map fun b=>Value.int .u8 b.toNat
 | .map kvs=>z=false∧∃b es,l.A=some (b,0)∧w.heap[b]?=some (.map es es.size)∧MR w Y 0 kvs es.toList
 | .iter o n seen=>z=false∧∃b,l.A=some (b,0)∧φ o≠.fresh∧∀z lo,φ o = .at z lo→∃m,lo.A=some (m,0)∧w.heap[b]?=some (.mapIter (some m) n seen.toArray n)
 | .lp c st pend cs=>z=false∧∃b fn d vs,l.A=some (b,0)∧w.heap[b]?=some (.loop { state:=st,pending:=pend,fn:=fn,tmps:=vs.toArray,params:=rfP c,assign:=rfA c,body:=rfB c,defers:=d })∧VRT w Y φ cs vs
def YOf(X:Nat→Prop)(φ:Phi):Nat→Prop:=fun b=>X b∨blkOf φ b
def tabL:List (Nat×List Value):=[]
def TabOK(φ:Phi)(w:World):Prop:=∀x∈tabL,¬blkOf φ x.1∧∃t fr,w.heap[x.1]?=some (.cells x.2.toArray t fr)
structure XT (X:Nat→Prop) (φ:Phi) (w:World):Prop where
 lt:∀b,X b→b<w.heap.size
 tab:TabOK φ w
instance {X:Nat→Prop} {φ:Phi} {w:World} : CoeFun (XT X φ w) (fun _=>∀b,X b→b<w.heap.size):=⟨XT.lt⟩
structure HR (X:Nat→Prop) (φ:Phi) (H:Hp) (w:World):Prop where
 fresh:∀o,H.length≤o→φ o = .fresh
 live:∀o z l,φ o = .at z l→∃x,hget H o=some x
 ob:∀o x,hget H o=some x→∃z l,φ o = .at z l∧OR w (YOf X φ) φ z l x
 inj:∀o o' l l' b p p',φ o = .at false l→φ o' = .at false l'→l.has b p→l'.has b p'→o=o'
 out:∀o l b p,φ o = .at false l→l.has b p→¬X b∧b<w.heap.size
 xlt:XT X φ w
structure Ev (φ:Phi) (w:World) (φ':Phi) (w':World):Prop where
 os:w'.os=w.os
 tape:w'.tape=w.tape
 output:w'.output=w.output∧w.drawn≤w'.drawn
 size:w.heap.size≤w'.heap.size
 heap:∀b,b<w.heap.size→¬blkOf φ b→w'.heap[b]?=w.heap[b]?
 blk:∀b,b<w.heap.size→blkOf φ' b→blkOf φ b
 ids:∀o,φ o≠.fresh→φ' o=φ o∨φ' o = .dead∨∃l,φ o = .at false l∧φ' o = .at true l

section
variable {w w' w'':World} {Y Y' X:Nat→Prop} {φ φ' φ'':Phi}
theorem Ev.refl(φ:Phi)(w:World):Ev φ w φ w:=⟨rfl,rfl,⟨rfl,Nat.le_refl _⟩,Nat.le_refl _,fun _ _ _=>rfl,fun _ _ h=>h,fun _ _=>.inl rfl⟩
theorem Ev.trans(h:Ev φ w φ' w')(k:Ev φ' w' φ'' w''):Ev φ w φ'' w'' where
 os:=k.os.trans h.os
 tape:=k.tape.trans h.tape
 output:=⟨k.output.1.trans h.output.1,Nat.le_trans h.output.2 k.output.2⟩
 size:=Nat.le_trans h.size k.size
 heap b hb hn:=(k.heap b (Nat.lt_of_lt_of_le hb h.size) (fun hc=>hn (h.blk b hb hc))).trans (h.heap b hb hn)
 blk b hb hc:=h.blk b hb (k.blk b (Nat.lt_of_lt_of_le hb h.size) hc)
 ids o hf:=by
  rcases h.ids o hf with h1 | h1 | ⟨l,h0,h1⟩
  ·rcases k.ids o (by rw [h1]; exact hf) with h2 | h2 | ⟨l,h2,h3⟩
   ·exact .inl (h2.trans h1)
   ·exact .inr (.inl h2)
   ·exact .inr (.inr ⟨l,h1.symm.trans h2,h3⟩)
  ·rcases k.ids o (by rw [h1]; intro h; cases h) with h2 | h2 | ⟨l,h2,_⟩
   ·exact .inr (.inl (h2.trans h1))
   ·exact .inr (.inl h2)
   ·rw [h1] at h2; cases h2
  ·rcases k.ids o (by rw [h1]; intro h; cases h) with h2 | h2 | ⟨l',h2,_⟩
   ·exact .inr (.inr ⟨l,h0,h2.trans h1⟩)
   ·exact .inr (.inl h2)
   ·rw [h1] at h2; cases h2

theorem TabOK.ev(h:TabOK φ w)(k:Ev φ w φ' w'):TabOK φ' w':=fun x hx=>by
 obtain ⟨h1,t,fr,h2⟩:=h x hx;have hlt:x.1<w.heap.size:=(Array.getElem?_eq_some_iff.1 h2).1;exact ⟨fun hc=>h1 (k.blk _ hlt hc),t,fr,by rw [k.heap _ hlt h1]; exact h2⟩
theorem TabOK.sub(h:TabOK φ w)(hs:∀b,blkOf φ' b→blkOf φ b):TabOK φ' w:=fun x hx=>⟨fun hc=>(h x hx).1 (hs _ hc),(h x hx).2⟩

structure Stay (w:World) (Y:Nat→Prop) (w':World) (Y':Nat→Prop):Prop where
 size:w.heap.size≤w'.heap.size
 heap:∀b,b<w.heap.size→¬Y b→(∀x,w.heap[b]?≠some (.deferred x))→w'.heap[b]?=w.heap[b]?
 sub:∀b,b<w.heap.size→Y' b→Y b
theorem lt_of_cell{a:Addr}{v:Value}(h:w.cell? a=some v):a.block<w.heap.size:=by
 rcases Nat.lt_or_ge a.block w.heap.size with hlt | hge
 ·exact hlt
 ·simp [World.cell?,Array.getElem?_eq_none hge] at h
theorem Stay.cell(h:Stay w Y w' Y'){b o:Nat}{v:Value}(hb:¬Y b)(hc:w.cell? ⟨b,o,none⟩=some v):w'.cell? ⟨b,o,none⟩=some v:=by
 rw [←hc]; exact World.cell?_of_block (a:=⟨b,o,none⟩) (h.heap b (lt_of_cell hc) hb fun x hx=>by simp [World.cell?,hx] at hc)
mutual
theorem PR.stay(h:Stay w Y w' Y'):∀(p:PV)(v:Value),PR w Y p v→PR w' Y' p v
 | .int _ _,_,hp=>by simpa only [PR] using hp
 | .bool _,_,hp=>by simpa only [PR] using hp
 | .str _,_,hp=>by simpa only [PR] using hp
 | .agg cs,v,hp=>by
  simp only [PR] at hp ⊢;obtain ⟨vs,hv,hl⟩:=hp;exact ⟨vs,hv,PRL.stay h cs vs hl⟩
 | .sl f sz es,v,hp=>by
  simp only [PR] at hp ⊢;obtain ⟨A,c,hv,h1,h2,h3,h4⟩:=hp;refine ⟨A,c,hv,h1,h2,h3,?_⟩;rcases h4 with h4 | ⟨b,o,hA,hY,hlt,hE⟩
  ·exact .inl h4
  ·exact .inr ⟨b,o,hA,fun hc=>hY (h.sub b hlt hc),Nat.lt_of_lt_of_le hlt h.size,PRE.stay h (fun _ _=>h.cell hY) o es hE⟩
 | .fn _,_,hp=>by simpa only [PR] using hp
 | .nilf,_,hp=>by simpa only [PR] using hp
 | .nilp,_,hp=>by simpa only [PR] using hp
 | .nilm,_,hp=>by simpa only [PR] using hp
 | .nili,_,hp=>by simpa only [PR] using hp
 | .ifc _ x,v,hp=>by
  simp only [PR] at hp ⊢;obtain ⟨y,hv,hx⟩:=hp;exact ⟨y,hv,PR.stay h x y hx⟩
theorem PRL.stay(h:Stay w Y w' Y'):∀(cs:List PV)(vs:List Value),PRL w Y cs vs→PRL w' Y' cs vs
 | [],_,hp=>by simpa only [PRL] using hp
 | c::cs,vs,hp=>by
  simp only [PRL] at hp ⊢;obtain ⟨v,r,e,ho,hc,hr⟩:=hp;exact ⟨v,r,e,ho,PR.stay h c v hc,PRL.stay h cs r hr⟩
theorem PRC.stay(h:Stay w Y w' Y'){b:Nat}(hb:∀o v,w.cell? ⟨b,o,none⟩=some v→w'.cell? ⟨b,o,none⟩=some v):∀(o:Nat)(cs:List PV),PRC w Y b o cs→PRC w' Y' b o cs
 | _,[],_=>by simp only [PRC]
 | o,c::cs,hp=>by
  simp only [PRC] at hp ⊢;obtain ⟨⟨v,hv,ho,hc⟩,hr⟩:=hp;exact ⟨⟨v,hb o v hv,ho,PR.stay h c v hc⟩,PRC.stay h hb (o+1) cs hr⟩
theorem PRE.stay(h:Stay w Y w' Y'){b sz:Nat}(hb:∀o v,w.cell? ⟨b,o,none⟩=some v→w'.cell? ⟨b,o,none⟩=some v):∀(o:Nat)(es:List (List PV)),PRE w Y b sz o es→PRE w' Y' b sz o es
 | _,[],_=>by simp only [PRE]
 | o,e::es,hp=>by
  simp only [PRE] at hp ⊢;obtain ⟨hl,hc,hr⟩:=hp;exact ⟨hl,PRC.stay h hb o e hc,PRE.stay h hb (o+sz) es hr⟩
end
theorem Ev.stay(h:Ev φ w φ' w')(X:Nat→Prop):Stay w (YOf X φ) w' (YOf X φ') where
 size:=h.size
 heap b hb hn _:=h.heap b hb fun hc=>hn (.inr hc)
 sub b hb hc:=hc.imp id (h.blk b hb)
theorem Ev.at(h:Ev φ w φ' w'){o:Nat}{p:Loc→Prop}(hp:φ o≠.fresh∧∀z l,φ o = .at z l→p l):φ' o≠.fresh∧∀z l,φ' o = .at z l→p l:=by
 rcases h.ids o hp.1 with e | e | ⟨l,e0,e⟩
 ·rw [e]; exact hp
 ·rw [e]; exact ⟨(fun k=>by cases k),(fun z l k=>by cases k)⟩
 ·rw [e]; exact ⟨(fun k=>by cases k),(fun z l' k=>by cases k; exact hp.2 _ _ e0)⟩
mutual
theorem VR.stay(h:Ev φ w φ' w')(X:Nat→Prop):∀(a:AV)(v:Value),VR w (YOf X φ) φ a v→VR w' (YOf X φ') φ' a v
 | .pl p,v,ha=>by
  simp only [VR] at ha ⊢; exact PR.stay (h.stay X) p v ha
 | .un,_,_=>by simp only [VR]
 | .agg cs,v,ha=>by
  simp only [VR] at ha ⊢;obtain ⟨vs,e,hl⟩:=ha;exact ⟨vs,e,VRL.stay h X cs vs hl⟩
 | .tup cs,v,ha=>by
  simp only [VR] at ha ⊢;obtain ⟨vs,e,hl⟩:=ha;exact ⟨vs,e,VRT.stay h X cs vs hl⟩
 | .clo f cs,v,ha=>by
  simp only [VR] at ha ⊢;obtain ⟨vs,e,hl⟩:=ha;exact ⟨vs,e,VRT.stay h X cs vs hl⟩
 | .own o,v,ha=>by simp only [VR] at ha ⊢; exact ⟨ha.1,h.at ha.2⟩
 | .vw o off len,v,ha=>by simp only [VR] at ha ⊢; exact ⟨ha.1,h.at ha.2⟩
 | .bp o i,v,ha=>by simp only [VR] at ha ⊢; exact ⟨ha.1,h.at ha.2⟩
 | .ep o i j,v,ha=>by simp only [VR] at ha ⊢; exact ⟨ha.1,h.at ha.2⟩
 | .ip cs i,v,ha=>by
  simp only [VR] at ha ⊢;obtain ⟨b,o,e,hY,hlt,hc⟩:=ha;exact ⟨b,o,e,fun hc=>hY ((h.stay X).sub b hlt hc),Nat.lt_of_lt_of_le hlt h.size,PRC.stay (h.stay X) (fun _ _=>(h.stay X).cell hY) o cs hc⟩
 | .mp o,v,ha=>by simp only [VR] at ha ⊢; exact ⟨ha.1,h.at ha.2⟩
 | .it o,v,ha=>by simp only [VR] at ha ⊢; exact ⟨ha.1,h.at ha.2⟩
 | .yl o,v,ha=>by simp only [VR] at ha ⊢; exact ⟨ha.1,h.at ha.2⟩
theorem VRL.stay(h:Ev φ w φ' w')(X:Nat→Prop):∀(cs:List AV)(vs:List Value),VRL w (YOf X φ) φ cs vs→VRL w' (YOf X φ') φ' cs vs
 | [],_,hp=>by simpa only [VRL] using hp
 | c::cs,vs,hp=>by
  simp only [VRL] at hp ⊢;obtain ⟨v,r,e,ho,hc,hr⟩:=hp;exact ⟨v,r,e,ho,VR.stay h X c v hc,VRL.stay h X cs r hr⟩
theorem VRT.stay(h:Ev φ w φ' w')(X:Nat→Prop):∀(cs:List AV)(vs:List Value),VRT w (YOf X φ) φ cs vs→VRT w' (YOf X φ') φ' cs vs
 | [],_,hp=>by simpa only [VRT] using hp
 | c::cs,vs,hp=>by
  simp only [VRT] at hp ⊢;obtain ⟨v,r,e,hc,hr⟩:=hp;exact ⟨v,r,e,VR.stay h X c v hc,VRT.stay h X cs r hr⟩
end
theorem MR.stay(h:Stay w Y w' Y'):∀(i:Nat)(kvs:List (PV×PV))(es:List MapEntry),MR w Y i kvs es→MR w' Y' i kvs es
 | _,[],_,hm=>by simpa only [MR] using hm
 | i,(k,x)::r,es,hm=>by
  simp only [MR] at hm ⊢;obtain ⟨e,es',he,hb,hk,hx,hr⟩:=hm;exact ⟨e,es',he,hb,PR.stay h k _ hk,PR.stay h x _ hx,MR.stay h (i+1) r es' hr⟩


theorem PRL.length:∀{cs:List PV} {vs:List Value},PRL w Y cs vs→vs.length=cs.length
 | [],vs,h=>by simp only [PRL] at h; subst h; rfl
 | c::cs,vs,h=>by
  simp only [PRL] at h;obtain ⟨v,r,rfl,_,_,hr⟩:=h;simp [PRL.length hr]
theorem VRL.length:∀{cs:List AV} {vs:List Value},VRL w Y φ cs vs→vs.length=cs.length
 | [],vs,h=>by simp only [VRL] at h; subst h; rfl
 | c::cs,vs,h=>by
  simp only [VRL] at h;obtain ⟨v,r,rfl,_,_,hr⟩:=h;simp [VRL.length hr]
theorem VRT.length:∀{cs:List AV} {vs:List Value},VRT w Y φ cs vs→vs.length=cs.length
 | [],vs,h=>by simp only [VRT] at h; subst h; rfl
 | c::cs,vs,h=>by
  simp only [VRT] at h;obtain ⟨v,r,rfl,_,hr⟩:=h;simp [VRT.length hr]
theorem VRL.at:∀{cs:List AV} {vs:List Value},VRL w Y φ cs vs→∀{i:Nat} {c:AV},cs[i]?=some c→∃v,vs[i]?=some v∧oneA c=true∧VR w Y φ c v
 | [],_,_,i,c,hi=>by simp at hi
 | c::cs,vs,h,i,d,hi=>by
  simp only [VRL] at h;obtain ⟨v,r,rfl,ho,hc,hr⟩:=h;cases i with
  | zero=>simp at hi; subst hi; exact ⟨v,by simp,ho,hc⟩
  | succ i=>simp at hi; simpa using VRL.at hr hi
theorem VRT.at:∀{cs:List AV} {vs:List Value},VRT w Y φ cs vs→∀{i:Nat} {c:AV},cs[i]?=some c→∃v,vs[i]?=some v∧VR w Y φ c v
 | [],_,_,i,c,hi=>by simp at hi
 | c::cs,vs,h,i,d,hi=>by
  simp only [VRT] at h;obtain ⟨v,r,rfl,hc,hr⟩:=h;cases i with
  | zero=>simp at hi; subst hi; exact ⟨v,by simp,hc⟩
  | succ i=>simp at hi; simpa using VRT.at hr hi
theorem VRL.append:∀{cs ds:List AV} {vs us:List Value},VRL w Y φ cs vs→VRL w Y φ ds us→VRL w Y φ (cs++ds) (vs++us)
 | [],ds,vs,us,h,k=>by simp only [VRL] at h; subst h; exact k
 | c::cs,ds,vs,us,h,k=>by
  simp only [VRL] at h;obtain ⟨v,r,rfl,ho,hc,hr⟩:=h;simp only [List.cons_append,VRL];exact ⟨v,r++us,rfl,ho,hc,VRL.append hr k⟩
theorem PRL.append:∀{cs ds:List PV} {vs us:List Value},PRL w Y cs vs→PRL w Y ds us→PRL w Y (cs++ds) (vs++us)
 | [],ds,vs,us,h,k=>by simp only [PRL] at h; subst h; exact k
 | c::cs,ds,vs,us,h,k=>by
  simp only [PRL] at h;obtain ⟨v,r,rfl,ho,hc,hr⟩:=h;simp only [List.cons_append,PRL];exact ⟨v,r++us,rfl,ho,hc,PRL.append hr k⟩
theorem VRT.append:∀{cs ds:List AV} {vs us:List Value},VRT w Y φ cs vs→VRT w Y φ ds us→VRT w Y φ (cs++ds) (vs++us)
 | [],ds,vs,us,h,k=>by simp only [VRT] at h; subst h; exact k
 | c::cs,ds,vs,us,h,k=>by
  simp only [VRT] at h;obtain ⟨v,r,rfl,hc,hr⟩:=h;simp only [List.cons_append,VRT];exact ⟨v,r++us,rfl,hc,VRT.append hr k⟩
theorem VRL.drop:∀{cs:List AV} {vs:List Value},VRL w Y φ cs vs→∀n,VRL w Y φ (cs.drop n) (vs.drop n)
 | [],vs,h,n=>by simp only [VRL] at h; subst h; simp [VRL]
 | c::cs,vs,h,0=>by simpa using h
 | c::cs,vs,h,n+1=>by
  simp only [VRL] at h;obtain ⟨v,r,rfl,ho,hc,hr⟩:=h;simpa using VRL.drop hr n
theorem VRL.take:∀{cs:List AV} {vs:List Value},VRL w Y φ cs vs→∀n,VRL w Y φ (cs.take n) (vs.take n)
 | [],vs,h,n=>by simp only [VRL] at h; subst h; simp [VRL]
 | c::cs,vs,h,0=>by simp [VRL]
 | c::cs,vs,h,n+1=>by
  simp only [VRL] at h;obtain ⟨v,r,rfl,ho,hc,hr⟩:=h;simp only [List.take_succ_cons,VRL];exact ⟨v,r.take n,rfl,ho,hc,VRL.take hr n⟩
theorem PRL.vrl:∀{cs:List PV} {vs:List Value},PRL w Y cs vs→VRL w Y φ (cs.map .pl) vs
 | [],vs,h=>by simp only [PRL] at h; subst h; simp [VRL]
 | c::cs,vs,h=>by
  simp only [PRL] at h;obtain ⟨v,r,rfl,ho,hc,hr⟩:=h;simp only [List.map_cons,VRL];exact ⟨v,r,rfl,by cases c<;>simp_all [oneA,oneP],by simpa only [VR] using hc,PRL.vrl hr⟩
theorem VRL.prl:∀{cs:List AV} {ps:List PV} {vs:List Value},allPl cs=some ps→VRL w Y φ cs vs→PRL w Y ps vs
 | [],ps,vs,hp,h=>by simp [allPl] at hp; subst hp; simp only [VRL] at h; subst h; simp [PRL]
 | .pl p::cs,ps,vs,hp,h=>by
  simp only [allPl,Option.map_eq_some_iff] at hp;obtain ⟨qs,hq,rfl⟩:=hp;simp only [VRL] at h;obtain ⟨v,r,rfl,ho,hc,hr⟩:=h;simp only [PRL];exact ⟨v,r,rfl,by cases p<;>simp_all [oneA,oneP],by simpa only [VR] using hc,VRL.prl hq hr⟩
 | .un::cs,ps,vs,hp,h=>by simp [allPl] at hp
 | .agg _::cs,ps,vs,hp,h=>by simp [allPl] at hp
 | .tup _::cs,ps,vs,hp,h=>by simp [allPl] at hp
 | .clo _ _::cs,ps,vs,hp,h=>by simp [allPl] at hp
 | .own _::cs,ps,vs,hp,h=>by simp [allPl] at hp
 | .vw _ _ _::cs,ps,vs,hp,h=>by simp [allPl] at hp
 | .bp _ _::cs,ps,vs,hp,h=>by simp [allPl] at hp
 | .ep _ _ _::cs,ps,vs,hp,h=>by simp [allPl] at hp
 | .ip _ _::cs,ps,vs,hp,h=>by simp [allPl] at hp
 | .mp _::cs,ps,vs,hp,h=>by simp [allPl] at hp
 | .it _::cs,ps,vs,hp,h=>by simp [allPl] at hp
 | .yl _::cs,ps,vs,hp,h=>by simp [allPl] at hp
theorem VR.mkAgg{cs:List AV}{vs:List Value}(h:VRL w Y φ cs vs):VR w Y φ (mkAgg cs) (.agg vs.toArray):=by
 unfold Go.Proofs.Ytbgjlpdeoljmiaa.mkAgg
 split
 ·rename_i ps hp;simp only [VR,PR];exact ⟨vs,rfl,VRL.prl hp h⟩
 ·simp only [VR];exact ⟨vs,rfl,h⟩

mutual
theorem flatP_pr{Y Y':Nat→Prop}{w:World} : ∀(p:PV)(v:Value),flatP p=true→PR w Y p v→PR w Y' p v
 | .int _ _,v,_,h=>by simpa only [PR] using h
 | .bool _,v,_,h=>by simpa only [PR] using h
 | .str _,v,_,h=>by simpa only [PR] using h
 | .agg cs,v,hf,h=>by
  simp only [flatP] at hf;simp only [PR] at h ⊢;obtain ⟨vs,e,hl⟩:=h;exact ⟨vs,e,flatPL_pr cs vs hf hl⟩
 | .sl _ _ _,_,hf,_=>by simp [flatP] at hf
 | .fn _,_,hf,_=>by simp [flatP] at hf
 | .nilf,_,hf,_=>by simp [flatP] at hf
 | .nilp,_,hf,_=>by simp [flatP] at hf
 | .nilm,_,hf,_=>by simp [flatP] at hf
 | .nili,_,hf,_=>by simp [flatP] at hf
theorem flatPL_pr{Y Y':Nat→Prop}{w:World} : ∀(cs:List PV)(vs:List Value),flatPL cs=true→PRL w Y cs vs→PRL w Y' cs vs
 | [],vs,_,h=>by simpa only [PRL] using h
 | c::cs,vs,hf,h=>by
  simp only [flatPL,Bool.and_eq_true] at hf;simp only [PRL] at h ⊢;obtain ⟨v,r,e,ho,h1,h2⟩:=h;exact ⟨v,r,e,ho,flatP_pr c v hf.1 h1,flatPL_pr cs r hf.2 h2⟩
end

theorem Qan{H:Hp}{x:Ob}{n o:Nat}(hn:n≤H.length):hget (hput H n x) o=if o=n then some x else hget H o:=by
 unfold hput;cases hb:Nat.blt n H.length with
 | true =>
  rw [Nat.blt_eq] at hb;simp only [cond_true];unfold hget
  by_cases h:o=n
  ·subst h; rw [if_pos rfl,List.getElem?_set_self hb]
  ·rw [if_neg h,List.getElem?_set_ne (fun e=>h e.symm)]
 | false =>
  have he:n=H.length:=by
   have:¬n<H.length:=fun h=>by rw [←Nat.blt_eq,hb] at h; cases h
   omega
  subst he;simp only [cond_false];unfold hget
  by_cases h:o=H.length
  ·subst h; simp
  ·rw [if_neg h];rcases Nat.lt_or_ge o H.length with hlt | hge
   ·rw [List.getElem?_append_left hlt]
   ·rw [List.getElem?_eq_none (by simp; omega),List.getElem?_eq_none hge]
theorem length_put{H:Hp}{x:Ob}{n:Nat} : H.length≤(hput H n x).length∧n<(hput H n x).length∨¬n≤H.length:=by
 unfold hput;cases hb:Nat.blt n H.length with
 | true=>rw [Nat.blt_eq] at hb; left; simp; omega
 | false =>
  by_cases h:n≤H.length
  ·left; simp; omega
  ·exact .inr h
theorem Qar{H:Hp}{x:Ob}{n:Nat}(h:n≤H.length):H.length≤(hput H n x).length∧n<(hput H n x).length:=length_put.resolve_right fun k=>k h
theorem Qbh{H:Hp}{x:Ob}{o:Nat}(h:hget H o=some x):o<H.length:=by
 unfold hget at h;rcases Nat.lt_or_ge o H.length with hlt | hge
 ·exact hlt
 ·rw [List.getElem?_eq_none hge] at h; cases h
theorem Qaa{H:Hp}{y:Option Ob}{o o':Nat}(ho:o<H.length):hget (hset H o y) o'=if o'=o then y else hget H o':=by
 unfold hget hset
 by_cases h:o'=o
 ·subst h; rw [if_pos rfl,List.getElem?_set_self ho]; cases y<;>rfl
 ·rw [if_neg h,List.getElem?_set_ne (fun e=>h e.symm)]
theorem Qv{H:Hp}{y:Option Ob}{o:Nat} : (hset H o y).length=H.length:=by simp [hset]
def Phi.set(φ:Phi)(o:Nat)(p:Pl):Phi:=fun k=>if k=o then p else φ k
theorem Phi.set_self{o:Nat}{p:Pl} : φ.set o p o=p:=by simp [Phi.set]
theorem Phi.set_ne{o k:Nat}{p:Pl}(h:k≠o):φ.set o p k=φ k:=by simp [Phi.set,h]
theorem HR.lt{H:Hp}(h:HR X φ H w){o:Nat}{z:Bool}{l:Loc}(hl:φ o = .at z l):o<H.length:=by
 rcases Nat.lt_or_ge o H.length with hlt | hge
 ·exact hlt
 ·rw [h.fresh o hge] at hl; cases hl
theorem PRE.keep{D:Nat→Prop}(hD:∀b,b<w.heap.size→D b→w'.heap[b]?=w.heap[b]?)(hs:w.heap.size≤w'.heap.size){b sz p:Nat}{es:List (List PV)}(hb:w'.heap[b]?=w.heap[b]?)(h:PRE w (fun k=>¬D k) b sz p es):PRE w' (fun k=>¬D k) b sz p es :=
 PRE.stay (Y:=fun k=>¬D k) (Y':=fun k=>¬D k) ⟨hs,fun k hk hn _=>hD k hk (Classical.not_not.1 hn),fun _ _ h=>h⟩ (fun o v hv=>by rw [World.cell?_of_block (w:=w) (a:=⟨b,o,none⟩) hb]; exact hv) p es h
theorem OR.stay(h:Ev φ w φ' w')(X:Nat→Prop){z:Bool}{l:Loc}{x:Ob}(hbd:z=false→∀b p,l.has b p→b<w.heap.size→w'.heap[b]?=w.heap[b]?)(ho:OR w (YOf X φ) φ z l x):OR w' (YOf X φ') φ' z l x:=by
 have hb:z=false→∀b p,l.A=some (b,p)→(∃x,w.heap[b]?=some x)→w'.heap[b]?=w.heap[b]?:=fun hz b p hA hx=>hbd hz b p (.inl hA) (by
  obtain ⟨x,hx⟩:=hx;rcases Nat.lt_or_ge b w.heap.size with hlt | hge
  ·exact hlt
  ·rw [Array.getElem?_eq_none hge] at hx; cases hx)
 cases x with
 | drow sz es =>
  simp only [OR] at ho ⊢;obtain ⟨hz,h0,h1,h2,h3,h4,h5⟩:=ho;refine ⟨hz,fun k hk=>by
   obtain ⟨t,cs,hg⟩:=h0 k hk;exact ⟨t,cs,by rw [hbd hz k 0 (.inr hk) (Array.getElem?_eq_some_iff.1 hg).1]; exact hg⟩,h1,h2,h3,h4,h5.imp id ?_⟩
  rintro ⟨b,p,t,cs,hA,hg,hs,hE,hY⟩
  have hbb:=hb hz b p hA ⟨_,hg⟩;exact ⟨b,p,t,cs,hA,by rw [hbb]; exact hg,hs,PRE.keep (fun k hk hd=>hbd hz k 0 (.inr hd) hk) h.size hbb hE,hY⟩
 | box t cs =>
  simp only [OR] at ho ⊢;obtain ⟨hz,b,vs,hA,hg,hv⟩:=ho;exact ⟨hz,b,vs,hA,by rw [hb hz b 0 hA ⟨_,hg⟩]; exact hg,VRL.stay h X cs vs hv⟩
 | abox t cs es =>
  simp only [OR] at ho ⊢;obtain ⟨hz,b,vs,hA,hg,hv⟩:=ho;exact ⟨hz,b,vs,hA,by rw [hb hz b 0 hA ⟨_,hg⟩]; exact hg,VRL.stay h X _ vs hv⟩
 | row fz sz es =>
  simp only [OR] at ho ⊢;obtain ⟨hz,h1,h2,h3,h4,h5⟩:=ho;refine ⟨hz,h1,h2,h3,h4,h5.imp id ?_⟩
  rintro ⟨b,p,t,cs,hA,hg,hs,hE,hY⟩
  have hlt:b<w.heap.size:=by
   rcases Nat.lt_or_ge b w.heap.size with hlt | hge
   ·exact hlt
   ·rw [Array.getElem?_eq_none hge] at hg; cases hg
  have hbb:w'.heap[b]?=w.heap[b]?:=by
   cases z with
   | false=>exact hb rfl b p hA ⟨_,hg⟩
   | true=>exact (h.stay X).heap b hlt (hY rfl) fun x hx=>by rw [hg] at hx; cases hx
  exact ⟨b,p,t,cs,hA,by rw [hbb]; exact hg,hs,PRE.stay (h.stay X) (fun o v hv=>by rw [World.cell?_of_block (w:=w) (a:=⟨b,o,none⟩) hbb]; exact hv) p es hE,fun hz hc=>hY hz ((h.stay X).sub b hlt hc)⟩
 | brow e s =>
  simp only [OR] at ho ⊢;obtain ⟨hz,h1,b,cs,hA,hg,h2⟩:=ho;exact ⟨hz,h1,b,cs,hA,by rw [hb hz b 0 hA ⟨_,hg⟩]; exact hg,h2⟩
 | map kvs =>
  simp only [OR] at ho ⊢;obtain ⟨hz,b,es,hA,hg,hm⟩:=ho;exact ⟨hz,b,es,hA,by rw [hb hz b 0 hA ⟨_,hg⟩]; exact hg,MR.stay (h.stay X) 0 kvs es.toList hm⟩
 | iter o n seen =>
  simp only [OR] at ho ⊢;obtain ⟨hz,b,hA,hn,hm⟩:=ho;have:=h.at (p:=fun lo=>∃m,lo.A=some (m,0)∧w.heap[b]?=some (.mapIter (some m) n seen.toArray n)) ⟨hn,hm⟩;exact ⟨hz,b,hA,this.1,fun z lo hlo=>by
   obtain ⟨m,h1,h2⟩:=this.2 z lo hlo;exact ⟨m,h1,by rw [hb hz b 0 hA ⟨_,h2⟩]; exact h2⟩⟩
 | lp c st pend cs =>
  simp only [OR] at ho ⊢;obtain ⟨hz,b,fn,d,vs,hA,hg,hv⟩:=ho;exact ⟨hz,b,fn,d,vs,hA,by rw [hb hz b 0 hA ⟨_,hg⟩]; exact hg,VRT.stay h X cs vs hv⟩
theorem HR.next{H H':Hp}(h:HR X φ H w)(ev:Ev φ w φ' w')(fresh:∀o,H'.length≤o→φ' o = .fresh)(live:∀o z l,φ' o = .at z l→∃x,hget H' o=some x)
  (ob:∀o x,hget H' o=some x→(hget H o=some x∧φ' o=φ o∧∀l b p,φ o = .at false l→l.has b p→w'.heap[b]?=w.heap[b]?)∨∃z l,φ' o = .at z l∧OR w' (YOf X φ') φ' z l x)
  (at_:∀o l b p,φ' o = .at false l→l.has b p→φ o = .at false l∨(¬X b∧b<w'.heap.size∧∀o' l' p',φ' o' = .at false l'→l'.has b p'→o'=o)):HR X φ' H' w' where
 fresh:=fresh
 live:=live
 ob o x hx:=by
  rcases ob o x hx with ⟨h1,h2,h3⟩ | h1
  ·obtain ⟨z,l,hl,hO⟩:=h.ob o x h1;exact ⟨z,l,h2.trans hl,OR.stay ev X (fun hz b p hA _=>h3 l b p (by rw [←hz]; exact hl) hA) hO⟩
  ·exact h1
 inj o o' l l' b p p' ho ho' hA hA':=by
  rcases at_ o l b p ho hA with h1 | ⟨_,_,h1⟩
  ·rcases at_ o' l' b p' ho' hA' with h2 | ⟨_,_,h2⟩
   ·exact h.inj o o' l l' b p p' h1 h2 hA hA'
   ·exact h2 o l p ho hA
  ·exact (h1 o' l' p' ho' hA').symm
 out o l b p ho hA:=by
  rcases at_ o l b p ho hA with h1 | ⟨h1,h2,_⟩
  ·have:=h.out o l b p h1 hA; exact ⟨this.1,Nat.lt_of_lt_of_le this.2 ev.size⟩
  ·exact ⟨h1,h2⟩
 xlt:=⟨fun b hb=>Nat.lt_of_lt_of_le (h.xlt b hb) ev.size,h.xlt.tab.ev ev⟩
structure Free (φ:Phi) (H:Hp) (n:Nat):Prop where
 fr:φ n = .fresh
 le:n≤H.length
theorem HR.free{H:Hp}(h:HR X φ H w):Free φ H H.length:=⟨h.fresh _ (Nat.le_refl _),Nat.le_refl _⟩
theorem Ev.new{n:Nat}(hf:φ n = .fresh)(ob:Obj)(l:Loc)(hA:∀b p,l.has b p→w.heap.size≤b):Ev φ w (φ.set n (.at false l)) (w.alloc ob) where
 os:=rfl
 tape:=rfl
 output:=⟨rfl,Nat.le_refl _⟩
 size:=by simp
 heap b hb _:=Below.heap_alloc w ob b hb
 blk b hb hc:=by
  obtain ⟨o,l',p,ho,hA'⟩:=hc
  by_cases e:o=n
  ·subst e; rw [Phi.set_self] at ho; cases ho; have:=hA b p hA'; omega
  ·rw [Phi.set_ne e] at ho; exact ⟨o,l',p,ho,hA'⟩
 ids o hne:=by
  left
  refine Phi.set_ne fun e=>hne ?_;rw [e]; exact hf
theorem HR.new{H:Hp}{n:Nat}(h:HR X φ H w)(hf:Free φ H n)(ob:Obj)(l:Loc)(x:Ob)(hA:∀b p,l.has b p→b=w.heap.size)
  (hO:OR (w.alloc ob) (YOf X (φ.set n (.at false l))) (φ.set n (.at false l)) false l x):HR X (φ.set n (.at false l)) (hput H n x) (w.alloc ob):=by
 have ev:=Ev.new (w:=w) hf.fr ob l (fun b p e=>by rw [hA b p e]; exact Nat.le_refl _);have hlen:=Qar (x:=x) hf.le;refine h.next ev (fun o ho=>?_) (fun o z l' ho=>?_) (fun o y hy=>?_) (fun o l' b p ho hA'=>?_)
 ·rw [Phi.set_ne (by omega)]; exact h.fresh o (by omega)
 ·by_cases e:o=n
  ·exact ⟨x,by rw [Qan hf.le,if_pos e]⟩
  ·rw [Phi.set_ne e] at ho;obtain ⟨y,hy⟩:=h.live o z l' ho;exact ⟨y,by rw [Qan hf.le,if_neg e]; exact hy⟩
 ·by_cases e:o=n
  ·rw [Qan hf.le,if_pos e] at hy; cases hy;exact .inr ⟨false,l,by rw [e,Phi.set_self],hO⟩
  ·rw [Qan hf.le,if_neg e] at hy;refine .inl ⟨hy,Phi.set_ne e,fun l' b p hl hA'=>?_⟩;exact Below.heap_alloc w ob b (h.out o l' b p hl hA').2
 ·by_cases e:o=n
  ·subst e; rw [Phi.set_self] at ho; cases ho;have hb:=hA b p hA';subst hb;refine .inr ⟨fun hx=>by have:=h.xlt _ hx; omega,by simp,fun o' l' p' ho' hA''=>?_⟩
   by_cases e':o'=o
   ·exact e'
   ·rw [Phi.set_ne e'] at ho';have:=(h.out o' l' _ p' ho' hA'').2; omega
  ·rw [Phi.set_ne e] at ho; exact .inl ho
theorem Ev.kill(o:Nat)(hl:φ o≠.fresh):Ev φ w (φ.set o .dead) w where
 os:=rfl
 tape:=rfl
 output:=⟨rfl,Nat.le_refl _⟩
 size:=Nat.le_refl _
 heap _ _ _:=rfl
 blk b _ hc:=by
  obtain ⟨k,l',p,ho,hA'⟩:=hc
  by_cases e:k=o
  ·subst e; rw [Phi.set_self] at ho; cases ho
  ·rw [Phi.set_ne e] at ho; exact ⟨k,l',p,ho,hA'⟩
 ids k hf:=by
  by_cases e:k=o
  ·subst e; exact .inr (.inl Phi.set_self)
  ·exact .inl (Phi.set_ne e)
theorem HR.kill{H:Hp}(h:HR X φ H w){o:Nat}{z:Bool}{l:Loc}(hl:φ o = .at z l):HR X (φ.set o .dead) (hset H o none) w:=by
 have hlt:=h.lt hl;refine h.next (Ev.kill o (by rw [hl]; intro k; cases k)) (fun k=>?_) (fun k z l' hk=>?_) (fun k y hy=>?_) (fun k l' b p hk hA'=>?_)
 ·intro hk;rw [Qv] at hk;rw [Phi.set_ne (by omega)]; exact h.fresh k hk
 ·by_cases e:k=o
  ·subst e; rw [Phi.set_self] at hk; cases hk
  ·rw [Phi.set_ne e] at hk;obtain ⟨y,hy⟩:=h.live k z l' hk;exact ⟨y,by rw [Qaa hlt,if_neg e]; exact hy⟩
 ·by_cases e:k=o
  ·rw [Qaa hlt,if_pos e] at hy; cases hy
  ·rw [Qaa hlt,if_neg e] at hy;exact .inl ⟨hy,Phi.set_ne e,fun _ _ _ _ _=>rfl⟩
 ·by_cases e:k=o
  ·subst e; rw [Phi.set_self] at hk; cases hk
  ·rw [Phi.set_ne e] at hk; exact .inl hk
theorem Ev.write{b:Nat}{l:Loc}{o p:Nat}(hl:φ o = .at false l)(hA:l.A=some (b,p))(hos:w'.os=w.os)(htape:w'.tape=w.tape)(hout:w'.output=w.output∧w.drawn≤w'.drawn)(hsize:w'.heap.size=w.heap.size)
  (hg:∀k,k≠b→w'.heap[k]?=w.heap[k]?):Ev φ w φ w' where
 os:=hos
 tape:=htape
 output:=hout
 size:=by omega
 heap k _ hn:=hg k fun e=>hn ⟨o,l,p,hl,by rw [e]; exact .inl hA⟩
 blk _ _ h:=h
 ids _ _:=.inl rfl
theorem HR.write{H:Hp}(h:HR X φ H w){b:Nat}{l:Loc}{o p:Nat}{x:Ob}(hl:φ o = .at false l)(hA:l.A=some (b,p))(hos:w'.os=w.os)(htape:w'.tape=w.tape)(hout:w'.output=w.output∧w.drawn≤w'.drawn)(hsize:w'.heap.size=w.heap.size)
  (hg:∀k,k≠b→w'.heap[k]?=w.heap[k]?) (hO:OR w' (YOf X φ) φ false l x):HR X φ (hset H o (some x)) w':=by
 have hlt:=h.lt hl;refine h.next (Ev.write hl hA hos htape hout hsize hg) (fun k hk=>h.fresh k (by rw [Qv] at hk; exact hk)) (fun k z l' hk=>?_) (fun k y hy=>?_) (fun k l' b' p' hk hA'=>.inl hk)
 ·by_cases e:k=o
  ·exact ⟨x,by rw [Qaa hlt,if_pos e]⟩
  ·obtain ⟨y,hy⟩:=h.live k z l' hk;exact ⟨y,by rw [Qaa hlt,if_neg e]; exact hy⟩
 ·by_cases e:k=o
  ·rw [Qaa hlt,if_pos e] at hy; cases hy;exact .inr ⟨false,l,by rw [e]; exact hl,hO⟩
  ·rw [Qaa hlt,if_neg e] at hy;refine .inl ⟨hy,rfl,fun l' b' p' hk hA'=>hg b' fun eb=>e ?_⟩;subst eb;exact h.inj k o l' l b' p' p hk hl hA' (.inl hA)
theorem Ev.freeze{o:Nat}{l:Loc}(hl:φ o = .at false l):Ev φ w (φ.set o (.at true l)) w where
 os:=rfl
 tape:=rfl
 output:=⟨rfl,Nat.le_refl _⟩
 size:=Nat.le_refl _
 heap _ _ _:=rfl
 blk b _ hc:=by
  obtain ⟨k,l',p,ho,hA'⟩:=hc
  by_cases e:k=o
  ·subst e; rw [Phi.set_self] at ho; cases ho
  ·rw [Phi.set_ne e] at ho; exact ⟨k,l',p,ho,hA'⟩
 ids k hf:=by
  by_cases e:k=o
  ·subst e; exact .inr (.inr ⟨l,hl,Phi.set_self⟩)
  ·exact .inl (Phi.set_ne e)
theorem not_blk{H:Hp}(h:HR X φ H w){o b p:Nat}{l:Loc}(hl:φ o = .at false l)(hA:l.has b p):¬YOf X (φ.set o (.at true l)) b:=by
 rintro (hx | ⟨k,l',p',hk,hA'⟩)
 ·exact (h.out o l b p hl hA).1 hx
 ·by_cases e:k=o
  ·subst e; rw [Phi.set_self] at hk; cases hk
  ·rw [Phi.set_ne e] at hk;exact e (h.inj k o l' l b p' p hk hl hA' hA)
theorem HR.freeze{H:Hp}(h:HR X φ H w){o sz:Nat}{es:List (List PV)}{l:Loc}(hl:φ o = .at false l)(hO:OR w (YOf X φ) φ false l (.row false sz es)):HR X (φ.set o (.at true l)) (hset H o (some (.row true sz es))) w:=by
 have hlt:=h.lt hl;have ev:Ev φ w (φ.set o (.at true l)) w:=Ev.freeze hl;refine h.next ev (fun k=>?_) (fun k z l' hk=>?_) (fun k y hy=>?_) (fun k l' b p hk hA'=>?_)
 ·intro hk;rw [Qv] at hk;rw [Phi.set_ne (by omega)]; exact h.fresh k hk
 ·by_cases e:k=o
  ·exact ⟨_,by rw [Qaa hlt,if_pos e]⟩
  ·rw [Phi.set_ne e] at hk;obtain ⟨y,hy⟩:=h.live k z l' hk;exact ⟨y,by rw [Qaa hlt,if_neg e]; exact hy⟩
 ·by_cases e:k=o
  ·rw [Qaa hlt,if_pos e] at hy; cases hy;refine .inr ⟨true,l,by rw [e,Phi.set_self],?_⟩;have h1:=OR.stay ev X (fun _ _ _ _ _=>rfl) hO;simp only [OR] at h1 ⊢;obtain ⟨_,h2,h3,h4,h5,h6⟩:=h1;refine ⟨trivial,h2,h3,h4,h5,h6.imp id ?_⟩
   rintro ⟨b,p,t,cs,hA,hg,hs,hE,_⟩
   exact ⟨b,p,t,cs,hA,hg,hs,hE,fun _=>not_blk h hl (.inl hA)⟩
  ·rw [Qaa hlt,if_neg e] at hy;exact .inl ⟨hy,Phi.set_ne e,fun _ _ _ _ _=>rfl⟩
 ·by_cases e:k=o
  ·subst e; rw [Phi.set_self] at hk; cases hk
  ·rw [Phi.set_ne e] at hk; exact .inl hk
end
end Go.Proofs.Ytbgjlpdeoljmiaa
