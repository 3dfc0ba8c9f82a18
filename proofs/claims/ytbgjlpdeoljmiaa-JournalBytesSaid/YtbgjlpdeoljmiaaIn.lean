/- The call that changes all records of a journal that owns what it holds: it ends, and changes nothing else. No condition. -/
import Derived.Test.YtbgjlpdeoljmiaaTyD
import Derived.Test.YtbgjlpdeoljmiaaTV
namespace Go.Proofs.Ytbgjlpdeoljmiaa
set_option linter.unusedSimpArgs false
set_option linter.unusedVariables false
open Go.RowKit
def TouchOK(es:List (List PV)):Prop:=∀e∈es,∃(d:Int) (s:ByteArray) (ls:List (List PV)),e=[.int .i64 d,.str s,.sl .any 3 ls]∧∀l∈ls,∃(x y:ByteArray) (n:Int),l=[.str x,.str y,.int .i64 n]
section
variable {P:Program} {w w' w1:World} {a:Act} {ro:Option Nat} {S:Nat→Prop}
theorem r_op{o:Oper}{ops:Array Oper}{r:List Oper}{Q:Exit→Act→World→Prop}{v:Value}(hg:o.guard=none)(hd:∀c,o.op≠.defer c)(hrun:(execOp a.eval o).run P w = .ok (.value v) w')(k:wpListIn (Fr ro) 0 P ops Q r (a.put o.dst v) w'):wpListIn (Fr ro) 0 P ops Q (o::r) a w:=by
 unfold wpListIn;rw [if_pos (by unfold Region.wanted; rw [hg])];exact wpR_run hd (by rw [hrun,Oper.uponIn_value]; exact k)
theorem r_skip{o:Oper}{ops:Array Oper}{r:List Oper}{Q:Exit→Act→World→Prop}(hg:o.guard=none)(hd:∀c,o.op≠.defer c)(hrun:(execOp a.eval o).run P w = .ok .skip w')(k:wpListIn (Fr ro) 0 P ops Q r (a.put o.dst undef) w'):wpListIn (Fr ro) 0 P ops Q (o::r) a w:=by
 unfold wpListIn;rw [if_pos (by unfold Region.wanted; rw [hg])];exact wpR_run hd (by rw [hrun,Oper.uponIn_skip]; exact k)
theorem r_end{ops:Array Oper}{Q:Exit→Act→World→Prop}(h:Q .normal a w):wpListIn (Fr ro) 0 P ops Q [] a w:=h
theorem Qab(d:Option Nat)(v:Value):(a.put d v).tmps.size=a.tmps.size:=by
 unfold Act.put;cases d<;>simp
theorem Qah{d t:Nat}{v:Value}(h:d<a.tmps.size):(a.put (some d) v).eval (.tmp t)=if t=d then v else a.eval (.tmp t):=by
 unfold Act.put Act.eval;simp only [Array.getD_eq_getD_getElem?,Array.getElem?_setIfInBounds]
 by_cases e:t=d
 ·subst e; simp [h]
 ·rw [if_neg (fun h=>e h.symm),if_neg e]
theorem df_put(d:Option Nat)(v:Value):(a.put d v).defers=a.defers:=by cases d<;>rfl
theorem Qz{t:Nat}{v:Value} : (a.put none v).eval (.tmp t)=a.eval (.tmp t):=rfl
theorem loop_go{c:Code}{I:Nat→Act→World→Prop}{Q:Exit→Act→World→Prop}{N:Nat} (hstep:∀i a w,I i a w→c.wpIn (Fr ro) 0 P (fun e a' w'=>(e = .normal∧i<N∧I (i+1) a' w')∨(e≠.normal∧Q e a' w')) a w):∀f i a w,I i a w→N-i<f→Code.roundsIn (Fr ro) 0 P c Q f a w
 | 0,_,_,_,_,h=>absurd h (Nat.not_lt_zero _)
 | f+1,i,a,w,hI,hf=>by
  rw [roundsIn_succ];refine Code.wpIn_mono ?_ (hstep i a w hI);intro e a' w' h;rcases h with ⟨rfl,hi,h⟩|⟨hne,h⟩
  ·exact loop_go hstep f (i+1) a' w' h (by omega)
  ·cases e<;>first | exact absurd rfl hne | exact h

structure Tc (S:Nat→Prop) (w1 w:World):Prop where
 os:w.os=w1.os
 tape:w.tape=w1.tape
 output:w.output=w1.output∧w1.drawn≤w.drawn
 size:w.heap.size=w1.heap.size
 far:∀b,¬S b→w.heap[b]?=w1.heap[b]?
 cell:∀b o v,w1.cell? ⟨b,o,none⟩=some v→(∀m,v≠.int .i64 m)→w.cell? ⟨b,o,none⟩=some v
 num:∀b o,(∃m,w1.cell? ⟨b,o,none⟩=some (.int .i64 m))→∃m,w.cell? ⟨b,o,none⟩=some (.int .i64 m)
 frz:∀b o,w.frozen? ⟨b,o,none⟩=w1.frozen? ⟨b,o,none⟩
theorem Tc.refl(S:Nat→Prop)(w:World):Tc S w w:=⟨rfl,rfl,⟨rfl,Nat.le_refl _⟩,rfl,fun _ _=>rfl,fun _ _ _ h _=>h,fun _ _ h=>h,fun _ _=>rfl⟩
theorem Tc.set(h:Tc S w1 w){b o:Nat}{m k:Int}(hS:S b)(hc:w.cell? ⟨b,o,none⟩=some (.int .i64 m)):Tc S w1 (w.setCell ⟨b,o,none⟩ (.int .i64 k)) where
 os:=h.os
 tape:=h.tape
 output:=h.output
 size:=by rw [←h.size]; simp [World.setCell]
 far b' hb:=by
  rw [←h.far b' hb];exact Below.heap_setCell w _ _ b' fun e=>hb (by rw [e]; exact hS)
 cell b' o' v hv hn:=by
  have h1:=h.cell b' o' v hv hn;rw [World.cell?_setCell_other]
  ·exact h1
  ·intro e;simp only [Addr.mk.injEq] at e;obtain ⟨rfl,rfl,_⟩:=e;rw [hc] at h1;exact hn m (Option.some.inj h1).symm
 num b' o' hm:=by
  obtain ⟨m',h1⟩:=h.num b' o' hm
  by_cases e:(⟨b',o',none⟩:Addr)=⟨b,o,none⟩
  ·simp only [Addr.mk.injEq] at e;obtain ⟨rfl,rfl,_⟩:=e;exact ⟨k,World.cell?_setCell_same _ _ _ hc⟩
  ·refine ⟨m',?_⟩;rw [World.cell?_setCell_other]
   ·exact h1
   ·first | exact e | exact fun h=>e h.symm
 frz b' o':=by rw [World.frozen?_setCell]; exact h.frz b' o'
structure Rec (S:Nat→Prop) (w:World) (b o:Nat):Prop where
 day:∃m,w.cell? ⟨b,o,none⟩=some (.int .i64 m)
 lines:∃A n c,w.cell? ⟨b,o+2,none⟩=some (.slice A n c)∧n≤maxLen∧(n=0∨∃b' o',A=some ⟨b',o',none⟩∧S b'∧∀k,k<n→∃m,w.cell? ⟨b',o'+k*3+2,none⟩=some (.int .i64 m))
end
theorem fa_0:FieldAt Try.prog 24 0 0:=fieldAt_of Try.underlying24 rfl (sz:=1) (by kernel_rfl) rfl rfl
theorem fa_1:FieldAt Try.prog 47 0 0:=fieldAt_of Try.underlying47 rfl (sz:=1) (by kernel_rfl) rfl rfl
theorem fa_2:FieldAt Try.prog 47 2 2:=fieldAt_of Try.underlying47 rfl (sz:=1) (by kernel_rfl) rfl rfl
theorem fa_3:FieldAt Try.prog 49 2 2:=fieldAt_of Try.underlying49 rfl (sz:=1) (by kernel_rfl) rfl rfl
theorem el_1:ElemAt Try.prog 22 3:=elemAt_of Try.underlying22 (by kernel_rfl)
theorem el_2:ElemAt Try.prog 45 3:=elemAt_of Try.underlying45 (by kernel_rfl)
noncomputable def tchC:Code:=Try.f22.body.getD .skip
theorem recs_of{w:World}{l:Loc}{es:List (List PV)}(h:TouchOK es){b p:Nat}{S:Nat→Prop}(hD:∀k,l.D k→S k)(hE:PRE w (fun k=>¬l.D k) b 3 p es):∀i,i<es.length→Rec S w b (p+i*3):=by
 intro i hi;obtain ⟨h1,h2⟩:=hE.at (List.getElem?_eq_getElem hi);obtain ⟨d,s,ls,e,hls⟩:=h _ (List.getElem_mem hi);rw [e] at h2;simp only [PRC,PR] at h2;obtain ⟨⟨v0,c0,_,rfl⟩,⟨v1,c1,_,rfl⟩,⟨v2,c2,_,A,c,rfl,hl1,hl2,_,hA⟩,_⟩:=h2;refine ⟨⟨d,c0⟩,A,ls.length,c,c2,Nat.le_trans hl1 hl2,?_⟩;rcases hA with h0 | ⟨b',o',rfl,hn,_,hp⟩
 ·exact .inl h0
 ·refine .inr ⟨b',o',rfl,hD _ (Classical.not_not.1 hn),fun k hk=>?_⟩;obtain ⟨g1,g2⟩:=hp.at (List.getElem?_eq_getElem hk);obtain ⟨x,y,n,e2⟩:=hls _ (List.getElem_mem hk);rw [e2] at g2;simp only [PRC,PR] at g2;obtain ⟨_,_,⟨v3,c3,_,rfl⟩,_⟩:=g2;exact ⟨n,c3⟩
theorem wr1{k n:Nat}(h:k<n)(hn:n≤maxLen):IntKind.i64.wrap ((k:Int)+1)=(k:Int)+1:=by
 unfold maxLen at hn;exact w64 rfl (by omega) (by omega)
def SOf(l:Loc)(b:Nat):Prop:=(∃p,l.A=some (b,p))∨l.D b
theorem Rec.alloc{S:Nat→Prop}{w:World}{ob:Obj}{b o:Nat}(h:Rec S w b o):Rec S (w.alloc ob) b o:=by
 have k:∀{b o:Nat} {v:Value},w.cell? ⟨b,o,none⟩=some v→(w.alloc ob).cell? ⟨b,o,none⟩=some v:=fun {b o v} hc=>by
  rw [←hc];exact World.cell?_of_block (a:=⟨b,o,none⟩) (Below.heap_alloc w ob b (lt_of_cell hc))
 obtain ⟨⟨m,h1⟩,A,n,c,h2,h4,h3⟩:=h;refine ⟨⟨m,k h1⟩,A,n,c,k h2,h4,h3.imp id ?_⟩
 rintro ⟨b',o',e,hS,hm⟩
 exact ⟨b',o',e,hS,fun i hi=>by
  obtain ⟨q,hq⟩:=hm i hi;exact ⟨q,k hq⟩⟩
set_option maxHeartbeats 1000000 in
theorem touch_T{es:List (List PV)}(h:TouchOK es):T Try.prog Try.f22.ntmps 1 tchC (Qai [.agg [.own 0]] 0 .leaf,[some (.drow 3 es)]) (RetS cfg [] (.tup []) [none]):=by
 intro hk ro hro D X φ a w hS hb;have hsz:a.tmps.size=36:=hS.size;obtain ⟨z,l,hl,hO⟩:=hS.hr.ob 0 _ rfl;have hz:z=false:=by simp only [OR] at hO; exact hO.1
 subst hz;have hv:VR w (YOf X φ) φ (.agg [.own 0]) (a.eval (.tmp 0)):=hS.val (.tmp 0);simp only [VR,VRL] at hv;obtain ⟨vs,ev0,v,r,rfl,_,⟨_,_,hvs⟩,rfl⟩:=hv;have hvs:=hvs _ l hl;subst hvs;simp only [OR] at hO;obtain ⟨_,hcell,hn,hlsz,hle,hmx,hA⟩:=hO;have hSlt:∀b,SOf l b→¬X b∧b<w.heap.size:=fun b hb=>hb.elim (fun ⟨p,hp⟩=>hS.hr.out 0 l b p hl (.inl hp)) fun hd=>hS.hr.out 0 l b 0 hl (.inr hd);have hSblk:∀b,SOf l b→blkOf φ b:=fun b hb=>hb.elim (fun ⟨p,hp⟩=>⟨0,l,p,hl,.inl hp⟩) fun hd=>⟨0,l,0,hl,.inr hd⟩;have hfz:∀b,SOf l b→∀o,w.frozen? ⟨b,o,none⟩=false:=fun b hb o=>by
  have:∃t cs,w.heap[b]?=some (.cells cs t (0,0)):=by
   rcases hb with ⟨p,hp⟩ | hd
   ·rcases hA with ⟨h6,_⟩|⟨b2,q,t,cs,hA2,hg2,_⟩
    ·rw [h6] at hp; cases hp
    ·rw [hA2] at hp; cases hp; exact ⟨t,cs,hg2⟩
   ·exact hcell b hd
  obtain ⟨t,cs,hg⟩:=this;simp [World.frozen?,hg]
 have hrec:l.n=0∨∃b p,l.addr 0=some ⟨b,p,none⟩∧SOf l b∧∀i,i<l.n→Rec (SOf l) (w.alloc (.cells #[.slice (l.addr 0) l.n l.c] 24)) b (p+i*3):=by
  rcases hA with ⟨_,h6⟩|⟨b,p,t,cs,hA2,hg2,_,hE,_⟩
  ·exact .inl (by omega)
  ·refine .inr ⟨b,p,by simp [Loc.addr,hA2],.inl ⟨p,hA2⟩,fun i hi=>(recs_of h (fun k hk=>.inr hk) hE i (by rw [←hn]; exact hi)).alloc⟩
 clear hA
 have hbx:(w.alloc (.cells #[.slice (l.addr 0) l.n l.c] 24)).cell? ⟨w.heap.size,0,none⟩=some (.slice (l.addr 0) l.n l.c):=by
  simp only [World.cell?,heap_alloc_new]
  simp
 have hfz1:∀b,SOf l b→∀o,(w.alloc (.cells #[.slice (l.addr 0) l.n l.c] 24)).frozen? ⟨b,o,none⟩=false:=fun b hb o=>by
  rw [←hfz b hb o];unfold World.frozen?;rw [Below.heap_alloc w _ b (hSlt b hb).2]
 generalize hw1:w.alloc (.cells #[.slice (l.addr 0) l.n l.c] 24)=w1 at *;generalize hV:Value.slice (l.addr 0) l.n l.c=V at *;unfold tchC Try.f22;simp only [Option.getD_some];refine wpIn_seq (wpIn_region_list ?_);refine r_op (v:=.pointer (some ⟨w.heap.size,0,none⟩)) (w':=w1) rfl (fun c h=>by cases h) (by rw [←hw1]; exact x_box ev0) ?_;refine r_end ?_;refine wpIn_seq (wpIn_region_list ?_);refine r_op rfl (fun c h=>by cases h) (x_assign rfl) ?_;refine r_end ?_;generalize hbxe:w.heap.size=bx at *;have hbn:∀m,V≠.int .i64 m:=fun m e=>by rw [←hV] at e; cases e
 have hnS:∀{w2:World},Tc (SOf l) w1 w2→w2.cell? ⟨bx,0,none⟩=some V:=fun {w2} ht=>ht.cell bx 0 V hbx hbn;have hw1h:∀b,b<w.heap.size→w1.heap[b]?=w.heap[b]?:=fun b hb=>by rw [←hw1]; exact Below.heap_alloc w _ b hb
 have fin:∀{a':Act} {w':World},a'.tmps.size=36→a'.defers=a.defers→Tc (SOf l) w1 w'→PostB (rfree tchC) D X Try.f22.ntmps 1 φ w (RetS cfg [] (.tup []) [none]) .normal a' w':=fun {a' w'} g1 g2 ht=>by
  have no:∀o (z:Bool) (l2:Loc),(φ.set 0 .dead) o≠.at z l2:=fun o z l2 e=>by
   by_cases e0:o=0
   ·subst e0; rw [Phi.set_self] at e; cases e
   ·rw [Phi.set_ne e0,hS.hr.fresh o (by show 1≤o; omega)] at e; cases e
  have ev:Ev φ w (φ.set 0 .dead) w':=by
   refine ⟨by rw [ht.os,←hw1]; rfl,by rw [ht.tape,←hw1]; rfl,⟨by rw [ht.output.1,←hw1]; rfl,Nat.le_trans (by rw [←hw1]; exact Nat.le_refl _) ht.output.2⟩,by rw [ht.size,←hw1]; simp,fun b hb hnb=>?_,fun b hb ⟨o,l2,p,g,_⟩=>absurd g (no o false l2),fun o ho=>?_⟩
   ·rw [ht.far b fun hs=>hnb (hSblk b hs)]; exact hw1h b hb
   ·by_cases e0:o=0
    ·subst e0; exact .inr (.inl Phi.set_self)
    ·exact .inl (Phi.set_ne e0)
  refine ⟨(.norm,.leaf,[none]),⟨.inr rfl,rfl,rfl⟩,rfl,φ.set 0 .dead,.of ⟨by rw [g2]; exact hS.defers,g1,fun t=>by rw [Qcs]; simp only [VR],?_⟩,ev.b fun o ho e=>?_,Nat.le_refl _⟩
  ·refine ⟨fun o ho=>?_,fun o z l2 e=>absurd e (no o z l2),fun o x hx=>?_,fun o o' l2 l3 b p p' e=>absurd e (no o false l2),fun o l2 b p e=>absurd e (no o false l2),⟨fun b hb=>Nat.lt_of_lt_of_le (hS.hr.xlt b hb) ev.size,hS.hr.xlt.tab.ev ev⟩⟩
   ·have ho':1≤o:=ho;rw [Phi.set_ne (by omega)]; exact hS.hr.fresh o ho'
   ·exfalso
    cases o with
    | zero=>simp [hget] at hx
    | succ o=>simp [hget] at hx
  ·have:o=0:=by omega
   subst this;rw [hl] at e; cases e
 refine wpIn_block ?_;refine wpIn_loop_rounds (l.n+1) (loop_go (N:=l.n) (I:=fun i a2 w2=>a2.tmps.size=36∧a2.defers=a.defers∧a2.eval (.tmp 1) = .pointer (some ⟨bx,0,none⟩)∧a2.eval (.tmp 2) = .int .i64 (i:Int)∧i≤l.n∧Tc (SOf l) w1 w2) (fun i a2 w2 ⟨i1,i2,i3,i4,i5,i6⟩=>?_) (l.n+1) 0 _ _ ⟨?_,?_,?_,?_,Nat.zero_le _,Tc.refl _ _⟩ (by omega))
 ·refine wpIn_seq (wpIn_seq (wpIn_region_list ?_));refine r_op rfl (fun c h=>by cases h) (x_move i4) ?_;refine r_op rfl (fun c h=>by cases h) (x_field fa_0 (b:=bx) (o:=0) (by simp [Qah,Qab,Qz,i1,i3,i4])) ?_;refine r_op rfl (fun c h=>by cases h) (x_load1 (a:=⟨bx,0,none⟩) Try.underlying22 rfl (by simp [Qah,Qab,Qz,i1,i3,i4]) (hnS i6)) ?_;refine r_op rfl (fun c h=>by cases h) (x_lensl (A:=l.addr 0) (n:=l.n) (c:=l.c) Try.underlying22 (by simp [Qah,Qab,i1,hV])) ?_;refine r_op rfl (fun c h=>by cases h) (x_lss (k:=.i64) (p:=(i:Int)) (q:=(l.n:Int)) (by simp [Qah,Qab,Qz,i1,i3,i4]) (by simp [Qah,Qab,Qz,i1,i3,i4])) ?_;refine r_end ?_;refine wpIn_cond (show Act.eval _ (.tmp 8) = .bool (decide ((i:Int)<(l.n:Int))) from (by simp [Qah,Qab,Qz,i1,i3,i4])) ?_
  by_cases hlt:i<l.n
  ·rw [decide_eq_true (by omega)];simp only [if_true];refine wpIn_skip ?_;obtain ⟨b0,p0,hA0,hSb,hR⟩:=hrec.resolve_left (by omega);have hVb:V = .slice (some ⟨b0,p0,none⟩) l.n l.c:=by rw [←hV,hA0]
   obtain ⟨hday,A,n,c,hln,hnm,hcase⟩:=hR i hlt;obtain ⟨m0,hd0⟩:=i6.num b0 (p0+i*3) hday;refine wpIn_seq (wpIn_block (wpIn_seq (wpIn_region_list ?_)));refine r_op rfl (fun c h=>by cases h) (x_field fa_0 (b:=bx) (o:=0) (by simp [Qah,Qab,Qz,i1,i3,i4])) ?_;refine r_op rfl (fun c h=>by cases h) (x_load1 (a:=⟨bx,0,none⟩) Try.underlying22 rfl (by simp [Qah,Qab,Qz,i1,i3,i4]) (hnS i6)) ?_;refine r_op rfl (fun c h=>by cases h) (x_move (v:=.int .i64 (i:Int)) (by simp [Qah,Qab,Qz,i1,i3,i4])) ?_;refine r_op rfl (fun c h=>by cases h) (x_elem (b:=b0) (o:=p0) (n:=l.n) (c:=l.c) (i:=(i:Int)) (k:=i) el_1 (by simp [Qah,Qab,i1,hVb]) (by simp [Qah,Qab,Qz,i1,i3,i4]) rfl hlt) ?_;refine r_op rfl (fun c h=>by cases h) (x_field fa_1 (b:=b0) (o:=p0+i*3) (by simp [Qah,Qab,Qz,i1,i3,i4])) ?_
   refine r_skip rfl (fun c h=>by cases h) (x_store1 (b:=b0) (o:=p0+i*3) (v:=.int .i64 (-7)) (by kernel_rfl) rfl rfl (by simp [Qah,Qab,Qz,i1,i3,i4]) rfl hd0 ((i6.frz b0 _).trans (hfz1 b0 hSb _))) ?_;refine r_end ?_;have ht3:=i6.set (k:=-7) hSb hd0;refine wpIn_seq (wpIn_region_list ?_);refine r_op rfl (fun c h=>by cases h) (x_assign rfl) ?_;refine r_end ?_;refine wpIn_block ?_;refine wpIn_loop_rounds (n+1) (loop_go (N:=n) (I:=fun k a3 w3=>a3.tmps.size=36∧a3.defers=a.defers∧a3.eval (.tmp 1) = .pointer (some ⟨bx,0,none⟩)∧a3.eval (.tmp 2) = .int .i64 (i:Int)∧a3.eval (.tmp 3) = .int .i64 (k:Int)∧k≤n∧Tc (SOf l) w1 w3) (fun k a3 w3 ⟨j1,j2,j3,j4,j5,j6,j7⟩=>?_) (n+1) 0 _ _ ⟨?_,?_,?_,?_,?_,Nat.zero_le _,ht3⟩ (by omega))
   ·refine wpIn_seq (wpIn_seq (wpIn_region_list ?_));have hl3:=j7.cell b0 (p0+i*3+2) _ hln (fun m e=>by cases e);refine r_op rfl (fun c h=>by cases h) (x_move j5) ?_;refine r_op rfl (fun c h=>by cases h) (x_field fa_0 (b:=bx) (o:=0) (by simp [Qah,Qab,Qz,j1,j3,j4,j5])) ?_;refine r_op rfl (fun c h=>by cases h) (x_load1 (a:=⟨bx,0,none⟩) Try.underlying22 rfl (by simp [Qah,Qab,Qz,j1,j3,j4,j5]) (hnS j7)) ?_;refine r_op rfl (fun c h=>by cases h) (x_move (v:=.int .i64 (i:Int)) (by simp [Qah,Qab,Qz,j1,j3,j4,j5])) ?_;refine r_op rfl (fun c h=>by cases h) (x_elem (b:=b0) (o:=p0) (n:=l.n) (c:=l.c) (i:=(i:Int)) (k:=i) el_1 (by simp [Qah,Qab,j1,hVb]) (by simp [Qah,Qab,Qz,j1,j3,j4,j5]) rfl hlt) ?_;refine r_op rfl (fun c h=>by cases h) (x_field fa_2 (b:=b0) (o:=p0+i*3) (by simp [Qah,Qab,Qz,j1,j3,j4,j5])) ?_
    refine r_op rfl (fun c h=>by cases h) (x_load1 (a:=⟨b0,p0+i*3+2,none⟩) Try.underlying45 rfl (by simp [Qah,Qab,Qz,j1,j3,j4,j5]) hl3) ?_;refine r_op rfl (fun c h=>by cases h) (x_lensl (A:=A) (n:=n) (c:=c) Try.underlying45 (by simp [Qah,Qab,Qz,j1,j3,j4,j5])) ?_;refine r_op rfl (fun c h=>by cases h) (x_lss (k:=.i64) (p:=(k:Int)) (q:=(n:Int)) (by simp [Qah,Qab,Qz,j1,j3,j4,j5]) (by simp [Qah,Qab,Qz,j1,j3,j4,j5])) ?_;refine r_end ?_;refine wpIn_cond (show Act.eval _ (.tmp 24) = .bool (decide ((k:Int)<(n:Int))) from (by simp [Qah,Qab,Qz,j1,j3,j4,j5])) ?_
    by_cases hkn:k<n
    ·rw [decide_eq_true (by omega)];simp only [if_true];refine wpIn_skip ?_;obtain ⟨b1,o1,rfl,hS1,hnum⟩:=hcase.resolve_left (by omega);obtain ⟨m1,hc1⟩:=j7.num b1 (o1+k*3+2) (hnum k hkn);refine wpIn_seq (wpIn_block (wpIn_region_list ?_));refine r_op rfl (fun c h=>by cases h) (x_field fa_0 (b:=bx) (o:=0) (by simp [Qah,Qab,Qz,j1,j3,j4,j5])) ?_;refine r_op rfl (fun c h=>by cases h) (x_load1 (a:=⟨bx,0,none⟩) Try.underlying22 rfl (by simp [Qah,Qab,Qz,j1,j3,j4,j5]) (hnS j7)) ?_;refine r_op rfl (fun c h=>by cases h) (x_move (v:=.int .i64 (i:Int)) (by simp [Qah,Qab,Qz,j1,j3,j4,j5])) ?_;refine r_op rfl (fun c h=>by cases h) (x_elem (b:=b0) (o:=p0) (n:=l.n) (c:=l.c) (i:=(i:Int)) (k:=i) el_1 (by simp [Qah,Qab,j1,hVb]) (by simp [Qah,Qab,Qz,j1,j3,j4,j5]) rfl hlt) ?_
     refine r_op rfl (fun c h=>by cases h) (x_field fa_2 (b:=b0) (o:=p0+i*3) (by simp [Qah,Qab,Qz,j1,j3,j4,j5])) ?_;refine r_op rfl (fun c h=>by cases h) (x_load1 (a:=⟨b0,p0+i*3+2,none⟩) Try.underlying45 rfl (by simp [Qah,Qab,Qz,j1,j3,j4,j5]) hl3) ?_;refine r_op rfl (fun c h=>by cases h) (x_move (v:=.int .i64 (k:Int)) (by simp [Qah,Qab,Qz,j1,j3,j4,j5])) ?_;refine r_op rfl (fun c h=>by cases h) (x_elem (b:=b1) (o:=o1) (n:=n) (c:=c) (i:=(k:Int)) (k:=k) el_2 (by simp [Qah,Qab,Qz,j1,j3,j4,j5]) (by simp [Qah,Qab,Qz,j1,j3,j4,j5]) rfl hkn) ?_;refine r_op rfl (fun c h=>by cases h) (x_field fa_3 (b:=b1) (o:=o1+k*3) (by simp [Qah,Qab,Qz,j1,j3,j4,j5])) ?_
     refine r_skip rfl (fun c h=>by cases h) (x_store1 (b:=b1) (o:=o1+k*3+2) (v:=.int .i64 (-77)) (by kernel_rfl) rfl rfl (by simp [Qah,Qab,Qz,j1,j3,j4,j5]) rfl hc1 ((j7.frz b1 _).trans (hfz1 b1 hS1 _))) ?_;refine r_end ?_;have ht4:=j7.set (k:=-77) hS1 hc1;simp only [Exit.inBlock];refine wpIn_region_list ?_;refine r_op rfl (fun c h=>by cases h) (x_move (v:=.int .i64 (k:Int)) (by simp [Qah,Qab,Qz,j1,j3,j4,j5])) ?_;refine r_op rfl (fun c h=>by cases h) (x_add (k:=.i64) (p:=(k:Int)) (q:=1) (by simp [Qah,Qab,Qz,j1,j3,j4,j5]) rfl) ?_;refine r_op rfl (fun c h=>by cases h) (x_assign (v:=.int .i64 ((k+1:Nat):Int)) (by simp [Qah,Qab,Qz,j1,wr1 hkn hnm])) ?_;refine r_end ?_
     refine .inl ⟨rfl,hkn,by simp only [Qab]; exact j1,by simp only [df_put]; exact j2,(by simp [Qah,Qab,Qz,j1,j3,j4,j5]),(by simp [Qah,Qab,Qz,j1,j3,j4,j5]),(by simp [Qah,Qab,Qz,j1,j3,j4,j5]),hkn,ht4⟩
    ·rw [decide_eq_false (by omega)];simp only [Bool.false_eq_true,if_false];refine wpIn_exit ?_;refine .inr ⟨(fun e=>by cases e),?_⟩;simp only [Exit.inBlock,if_true];refine wpIn_region_list ?_;refine r_op rfl (fun c h=>by cases h) (x_move (v:=.int .i64 (i:Int)) (by simp [Qah,Qab,Qz,j1,j3,j4,j5])) ?_;refine r_op rfl (fun c h=>by cases h) (x_add (k:=.i64) (p:=(i:Int)) (q:=1) (by simp [Qah,Qab,Qz,j1,j3,j4,j5]) rfl) ?_;refine r_op rfl (fun c h=>by cases h) (x_assign (v:=.int .i64 ((i+1:Nat):Int)) (by simp [Qah,Qab,Qz,j1,wr1 hlt (Nat.le_trans hle hmx)])) ?_;refine r_end ?_;refine .inl ⟨rfl,hlt,by simp only [Qab]; exact j1,by simp only [df_put]; exact j2,(by simp [Qah,Qab,Qz,j1,j3,j4,j5]),(by simp [Qah,Qab,Qz,j1,j3,j4,j5]),hlt,j7⟩
   ·simp only [Qab]; exact i1
   ·simp only [df_put]; exact i2
   ·exact (by simp [Qah,Qab,Qz,i1,i3,i4])
   ·exact (by simp [Qah,Qab,Qz,i1,i3,i4])
   ·rw [Qah (by simp only [Qab,i1]; omega)]; rfl
  ·rw [decide_eq_false (by omega)];simp only [Bool.false_eq_true,if_false];refine wpIn_exit ?_;refine .inr ⟨(fun e=>by cases e),?_⟩;simp only [Exit.inBlock,if_true];exact fin (by simp only [Qab]; exact i1) (by simp only [df_put]; exact i2) i6
 ·rw [Qab,Qab]; exact hsz
 ·rw [df_put,df_put]
 ·rw [Qah (by rw [Qab,hsz]; omega),Qah (by rw [hsz]; omega)]; rfl
 ·rw [Qah (by rw [Qab,hsz]; omega)]; rfl
theorem touch_call{es:List (List PV)}(h:TouchOK es):Qm Try.prog true 22 [.agg [.own 0]] [some (.drow 3 es)] (.tup []) [none] :=
 Qm.shared Qf (f:=Try.f22) (c:=tchC) (by kernel_rfl) (by kernel_rfl) (by kernel_rfl) (touch_T h)
end Go.Proofs.Ytbgjlpdeoljmiaa
